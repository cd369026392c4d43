/- What the law asks for, part 40: De10 De11. -/
import Derived.Test.YtmjiiddncbhgpaaGreatE1
import Derived.Test.YtmjiiddncbhgpaaGreatE2
import Derived.Test.YtmjiiddncbhgpaaGreatE3
import Derived.Test.YtmjiiddncbhgpaaGreatE4
import Derived.Test.YtmjiiddncbhgpaaGreatE5
import Derived.Test.YtmjiiddncbhgpaaGreatE6
import Derived.Test.YtmjiiddncbhgpaaGreatE7
import Derived.Test.YtmjiiddncbhgpaaGreatE8
import Derived.Test.YtmjiiddncbhgpaaGreatE9
import Derived.Test.YtmjiiddncbhgpaaGreatE10
import Derived.Test.YtmjiiddncbhgpaaGreatE11
import Derived.Test.YtmjiiddncbhgpaaGreatE12
import Derived.Test.YtmjiiddncbhgpaaGreatE13
import Derived.Test.YtmjiiddncbhgpaaGreatE14
import Derived.Test.YtmjiiddncbhgpaaGreatE16
import Derived.Test.YtmjiiddncbhgpaaGreatE17
import Derived.Test.YtmjiiddncbhgpaaGreatE26
import Derived.Test.YtmjiiddncbhgpaaGreatE27
import Derived.Test.YtmjiiddncbhgpaaGreatE28
import Derived.Test.YtmjiiddncbhgpaaGreatE29
import Derived.Test.YtmjiiddncbhgpaaGreatE30
import Derived.Test.YtmjiiddncbhgpaaGreatE31
import Derived.Test.YtmjiiddncbhgpaaGreatE34
import Derived.Test.YtmjiiddncbhgpaaGreatE35
import Derived.Test.YtmjiiddncbhgpaaGreatE36
import Derived.Test.YtmjiiddncbhgpaaGreatE37
import Derived.Test.YtmjiiddncbhgpaaGreatE38
import Derived.Test.YtmjiiddncbhgpaaGreatE39
import Derived.BigQuiet
import Derived.Deep.AppendLies
import Derived.Deep.DeepCutAuto
import Derived.Deep.Draws
import Derived.Deep.Fields
import Derived.Deep.LoopGhost
import Derived.Deep.QuietTactic
import Derived.Deep.RegionHeld
import Derived.Deep.RegionHeld3
import Derived.Deep.RegionLaw
import Derived.Deep.Slices
import Derived.DeepKeys4
import Derived.Ground.Names2Prog
import Derived.Ground.SlgnProg
import Derived.Ground.SlsfProg
import Derived.IntWalk
import Derived.Laws.AppendOwnNone
import Derived.Laws.BitsAllLaws
import Derived.Laws.EntriesVeiled
import Derived.Laws.OwnMore
import Derived.Lib.Hide
import Derived.Lib.SlicesCompact
import Derived.LoopIn
import Derived.LoopNIn
import Derived.Maps.AppendAt
import Derived.Maps.OwnIn
import Derived.Maps.OwnOps
import Derived.Maps.OwnSet
import Derived.OrdersHeld
import Derived.OrdersIn
import Derived.OwnWalkIn
import Derived.ProofKit
import Derived.RangeFuncBound
import Derived.RangeFuncCalls
import Derived.RangeFuncLeaves
import Derived.RangeFuncNested
import Derived.Shelf.Abstract
import Derived.Shelf.RegionOpen
import Derived.Shelf.SlSortCmp.Whole1
import Derived.Shelf.Slices.Cells
import Derived.Shelf.Slices.Clone
import Derived.Shelf.Slices.CompactI
import Derived.Shelf.Slices.Empties
import Derived.Shelf.Slices.In.SortNone
import Derived.Shelf.Slices.SearchI
import Derived.Shelf.Sort.Plain
import Derived.Sort.OwnSortedInts
import Derived.StillTail
import Derived.StillTailTactics
import Derived.TacticsInMore
import Derived.Test.YtmjiiddncbhgpaaGreatProg
import Derived.WalkKit
import Init
namespace Go.Proofs.YtmjiiddncbhgpaaGreat
set_option linter.unusedVariables false
set_option linter.unusedSimpArgs false
open Go.RowKit
set_option maxRecDepth 100000 in
set_option maxHeartbeats 3200000 in
theorem paths_ct {L B g bf bp : Nat} {w : World} {ns : List BN} {C a : Nat} (h : St L B g bf bp w ns C) (ha : a < ns.length + 2) :
    Calls Tryz.prog 56 #[.pointer (some ⟨g, 0, none⟩), .int .i64 a] w fun e w' => Below w.heap.size w w' ∧ ∃ O n oc, e = .returned (.slice O n oc) ∧ ∀ W', Chg (fun b => b < w.heap.size) w' W' → Rd Enc.ss W' O n oc (pathsF (canon ns a).1 (canon ns a).2 ⟨[], []⟩) := by
  have hL := h.low
  obtain ⟨k1, k2, _⟩ := canon_ok h.ok ha
  have hwr := Write_ct h ha
  obtain ⟨ds, hds⟩ : ∃ z, z = (canon ns a).1 := ⟨_, rfl⟩
  obtain ⟨r, hr⟩ : ∃ z, z = (canon ns a).2 := ⟨_, rfl⟩
  rw [← hds] at k1 k2
  rw [← hr] at k2
  rw [← hds, ← hr] at hwr ⊢
  have Hwr := hide hwr
  have Hok := hide k1
  have hmf : ∀ (fn : Fn) (first cap : Array Value) (w : World), (Instr.makeFunc fn first cap).run Tryz.prog w = .ok (.func fn first cap) w := fun _ _ _ _ => rfl
  clear hwr h hds hr k1
  go_enter Tryz.func56, Tryz.ntmps56
  go_wp2_with fail
  refine Hwr.out.mono ?_
  rintro e w1 ⟨⟨D, nd, cd, rfl, hnd, _⟩, hb1⟩
  have hlen := hnd.len
  rw [List.length_map] at hlen
  subst hlen
  have hlow := hnd.low
  have Hnd := hide hnd
  have Hb1 := hide hb1
  clear hnd hb1
  go_upto_region 5 with (fail)
  have hd0 := (((Blk.new w1 158 [.int .i64 L, .slice D ds.length cd, .int .i64 r]).alloc (.cells #[.slice none 0 0] 26)).alloc (.cells #[.func (.func 101) #[] #[.pointer (some ⟨w1.heap.size + 1, 0, none⟩), .pointer (some ⟨w1.heap.size, 0, none⟩), .pointer (some ⟨w1.heap.size + 1 + 1, 0, none⟩)]] 160))
  have ho0 := ((Blk.new (w1.alloc (.cells #[.int .i64 L, .slice D ds.length cd, .int .i64 r] 158)) 26 [.slice none 0 0]).alloc (.cells #[.func (.func 101) #[] #[.pointer (some ⟨w1.heap.size + 1, 0, none⟩), .pointer (some ⟨w1.heap.size, 0, none⟩), .pointer (some ⟨w1.heap.size + 1 + 1, 0, none⟩)]] 160))
  have hu0 := (Blk.new ((w1.alloc (.cells #[.int .i64 L, .slice D ds.length cd, .int .i64 r] 158)).alloc (.cells #[.slice none 0 0] 26)) 160 [.func (.func 101) #[] #[.pointer (some ⟨w1.heap.size + 1, 0, none⟩), .pointer (some ⟨w1.heap.size, 0, none⟩), .pointer (some ⟨w1.heap.size + 1 + 1, 0, none⟩)]])
  have hb4 := below_three w1 (.cells #[.int .i64 L, .slice D ds.length cd, .int .i64 r] 158) (.cells #[.slice none 0 0] 26) (.cells #[.func (.func 101) #[] #[.pointer (some ⟨w1.heap.size + 1, 0, none⟩), .pointer (some ⟨w1.heap.size, 0, none⟩), .pointer (some ⟨w1.heap.size + 1 + 1, 0, none⟩)]] 160)
  simp only [World.size_alloc] at ho0 hu0
  obtain ⟨w4, hw4⟩ : ∃ W, W = (((w1.alloc (.cells #[.int .i64 L, .slice D ds.length cd, .int .i64 r] 158)).alloc (.cells #[.slice none 0 0] 26)).alloc (.cells #[.func (.func 101) #[] #[.pointer (some ⟨w1.heap.size + 1, 0, none⟩), .pointer (some ⟨w1.heap.size, 0, none⟩), .pointer (some ⟨w1.heap.size + 1 + 1, 0, none⟩)]] 160)) := ⟨_, rfl⟩
  rw [← hw4] at hd0 ho0 hu0 hb4 ⊢
  clear hw4
  have z1 := ho0.lt
  have hR : WkR L w1.heap.size (w1.heap.size + 1 + 1) (w1.heap.size + 1) D ds.length cd r ds (fun b => b = w1.heap.size + 1) w4 := ⟨hd0, fun W' hc => Hnd.out.keep (hb4.trans (hc.below (fun i e => by omega) hb4.size)), hu0, by omega, by omega⟩
  have hJ : PtJ w1.heap.size w.heap.size w4 (w1.heap.size + 1) (fun b => b = w1.heap.size + 1) none 0 0 [] [] := ⟨OwnE.nil _ _ _ _ _, fun r e => (by cases e), ho0, rfl, fun b e => by omega⟩
  have hwk := pathsWalk_ct hL Hok.out (B := w1.heap.size) (X := w.heap.size) Hb1.out.size rfl hlow r k2 ⟨[], []⟩ ⟨setB_iff.2 (by simp), setB_iff.2 (by simp), rfl⟩ w4 _ _ _ _ _ _ none none 0 0 0 0 hJ (fun w' _ => Rd.nil_ _ _) (fun w' _ => Rd.nil_ _ _) hR (by
    have : 2 ^ (L - lvl L ds r) ≤ 2 ^ 24 := Nat.pow_le_pow_right (by omega) (by omega)
    simp only [List.length_nil]
    omega)
  have Hwk := hide hwk
  have d2 := hd0.cell 2
  have u0 := hu0.cell 0
  simp only [List.getElem?_cons_zero, List.getElem?_cons_succ] at d2 u0
  have Hb4 := hide hb4
  clear hwk hR hJ hd0 ho0 hu0 hb4
  go_wp2_with fail
  refine Hwk.out.mono ?_
  rintro e w5 ⟨rfl, hch, M', O, n, oc, vs, hJ, _, _⟩
  have hb5 := Hb4.out.trans (hch.below (fun i e => by omega) Hb4.out.size)
  have o0 := hJ.box.cell 0
  simp only [List.getElem?_cons_zero] at o0
  have HJ := hide hJ
  have Hb5 := hide (Hb1.out.trans (hb5.mono Hb1.out.size))
  clear hJ hch hb5 Hwk
  go_wp2_with fail
  go_ret
  exact ⟨Hb5.out, O, n, oc, rfl, fun W' hc => by
    have := (HJ.out.own.chg hc (fun i e => .inr e) (fun r hr e => by have := (HJ.out.own.base hr).1; have := Hb1.out.size; omega)).rd
    simpa using this⟩
/-- what Make answers -/
def MakeP (w : World) (T : Tsk) (e : Ending) (w' : World) : Prop :=
  Below w.heap.size w w' ∧ (((taskFault T).1 ≠ 0 ∧ e = .returned (.tuple #[.slice none 0 0, .bool false, fault (taskFault T).1 (taskFault T).2])) ∨
    ((taskFault T).1 = 0 ∧ TooMany T ∧ e = .returned (.tuple #[.slice none 0 0, .bool false, fault 10 (-7)])) ∨
    ((taskFault T).1 = 0 ∧ ∃ l, ListOf T l ∧ (((∃ x ∈ l, goalW (wordF T.goal) x = true) ∧ e = .returned (.tuple #[.slice none 0 0, .bool false, fault 0 0])) ∨
      ((∀ x ∈ l, goalW (wordF T.goal) x = false) ∧ ∃ N O n oc cs, OkT T N ∧ MadeD N T l cs ∧ Rd Enc.ss w' O n oc cs ∧ e = .returned (.tuple #[.slice O n oc, .bool true, fault 0 0])))))
theorem wordsD_snoc {L : Nat} {l : List Nat} {x : Nat} {f g c : (Nat → Bool) → Bool} (h : wordsD L l f) (hc : ∀ s, c s = true ↔ ∀ v, v < L → s v = x.testBit v) (hg : ∀ s, g s = (f s || c s)) : wordsD L (l ++ [x]) g := fun s => by
  rw [hg, Bool.or_eq_true, h s, hc s]
  constructor
  · rintro (⟨y, hy, k⟩ | k)
    · exact ⟨y, List.mem_append_left _ hy, k⟩
    · exact ⟨x, by simp, k⟩
  · rintro ⟨y, hy, k⟩
    rcases List.mem_append.1 hy with hy | hy
    · exact .inl ⟨y, hy, k⟩
    · simp at hy; subst hy; exact .inr k
set_option maxRecDepth 100000 in
set_option maxHeartbeats 6400000 in
theorem DMake_ct (a : TA) (T : Tsk) (w : World) (h : TkR w a T) :
    Calls Tryz.prog 16 #[.agg #[.int .i64 T.facts, .slice a.I a.nI a.cI, .slice a.G a.nG a.cG, .slice a.O a.nO a.cO]] w (MakeP w T) := by
  have hck := fun W hW => Checked_ct a T W hW
  obtain ⟨I, nI, cI, G, nG, cG, O, nO, cO⟩ := a
  simp only at hck ⊢
  unfold CheckedP at hck
  rcases hq : taskFault T with ⟨ec, ei⟩
  rw [hq] at hck
  have H := hide h
  have Hck := hide hck
  have Hq := hide hq
  clear h hq hck
  have Hbl := hide (Below.refl w.heap.size w)
  go_enter Tryz.func16, Tryz.ntmps16
  go_upto_region 1 with (fail)
  obtain ⟨B0, hB0⟩ : ∃ B0, B0 = w.heap.size := ⟨_, rfl⟩
  have HB0 := hide hB0
  clear hB0
  have s_0 : B0 ≤ w.heap.size := Nat.le_trans (Nat.le_of_eq HB0.out) Hbl.out.size
  have hyt := Blk.new (w) 25 [.int .i64 T.facts, .slice I nI cI, .slice G nG cG, .slice O nO cO]
  have hyf := Blk.new ((w).alloc (.cells #[.int .i64 T.facts, .slice I nI cI, .slice G nG cG, .slice O nO cO] 25)) 29 [.int .i64 0, .int .i64 0]
  replace hyt := hyt.alloc (.cells #[.int .i64 0, .int .i64 0] 29)
  have hbW := below_two w (.cells #[.int .i64 T.facts, .slice I nI cI, .slice G nG cG, .slice O nO cO] 25) (.cells #[.int .i64 0, .int .i64 0] 29)
  simp only [World.size_alloc] at hyf
  obtain ⟨w0, hW⟩ : ∃ W, W = ((w).alloc (.cells #[.int .i64 T.facts, .slice I nI cI, .slice G nG cG, .slice O nO cO] 25)).alloc (.cells #[.int .i64 0, .int .i64 0] 29) := ⟨_, rfl⟩
  rw [← hW] at hyt hyf hbW ⊢
  replace Hbl := hide (Hbl.out.trans (hbW.mono Hbl.out.size))
  have Ht := hide hyt
  have Hf := hide hyf
  clear hW hbW hyt hyf
  generalize w.heap.size = gT at Ht Hf s_0 ⊢
  have t0 := Ht.out.cell 0
  have t1 := Ht.out.cell 1
  have t2 := Ht.out.cell 2
  have t3 := Ht.out.cell 3
  have tl := Ht.out.lt
  have f0 := Hf.out.cell 0
  have f1 := Hf.out.cell 1
  have fl := Hf.out.lt
  simp only [List.getElem?_cons_zero, List.getElem?_cons_succ] at t0 t1 t2 t3 f0 f1
  have a_t : B0 ≤ gT := by omega
  have a_f : B0 ≤ gT + 1 := by omega
  clear s_0
  have n_t_f : ¬ gT = gT + 1 := by omega
  have n_f_t : ¬ gT + 1 = gT := by omega
  go_wp2_with fail
  with_reducible refine (Hck.out w0 (H.out.keep Hbl.out)).mono ?_
  rintro e w1 ⟨hb, hor⟩
  have Hb01 := hide hb
  clear t0 t1 t2 t3 f0 f1 tl fl
  replace Ht := hide (Ht.out.keep hb)
  replace Hf := hide (Hf.out.keep hb)
  replace Hbl := hide (Hbl.out.trans (hb.mono Hbl.out.size))
  clear hb
  have t0 := Ht.out.cell 0
  have t1 := Ht.out.cell 1
  have t2 := Ht.out.cell 2
  have t3 := Ht.out.cell 3
  have tl := Ht.out.lt
  have f0 := Hf.out.cell 0
  have f1 := Hf.out.cell 1
  have fl := Hf.out.lt
  simp only [List.getElem?_cons_zero, List.getElem?_cons_succ] at t0 t1 t2 t3 f0 f1
  rcases hor with ⟨h1, rfl⟩ | ⟨h1, hmany, rfl⟩ | ⟨h1, g, A, c, L, rfl, hgl, hgh, hW, hrow, hlist⟩
  · skip
    skip
    unfold fault
    go_upto_region 2 with (fail)
    have n_t_p : ¬ gT = w1.heap.size := by omega
    have n_p_t : ¬ w1.heap.size = gT := by omega
    have n_f_p : ¬ gT + 1 = w1.heap.size := by omega
    have n_p_f : ¬ w1.heap.size = gT + 1 := by omega
    have s_t : gT < w1.heap.size := tl
    have s_f : gT + 1 < w1.heap.size := fl
    have s_0 : B0 ≤ w1.heap.size := Nat.le_trans (Nat.le_of_eq HB0.out) Hbl.out.size
    have hyp := Blk.new (w1) 29 [.int .i64 ec, .int .i64 ei]
    have hbW : Below (w1).heap.size (w1) ((w1).alloc (.cells #[.int .i64 ec, .int .i64 ei] 29)) := (Below.refl _ _).alloc (Nat.le_refl _) _
    obtain ⟨w2, hW⟩ : ∃ W, W = (w1).alloc (.cells #[.int .i64 ec, .int .i64 ei] 29) := ⟨_, rfl⟩
    rw [← hW] at hyp hbW ⊢
    replace Ht := hide (Ht.out.keep hbW)
    replace Hf := hide (Hf.out.keep hbW)
    replace Hbl := hide (Hbl.out.trans (hbW.mono Hbl.out.size))
    have Hp := hide hyp
    clear hW hbW hyp
    generalize w1.heap.size = gp at Hp n_t_p n_p_t n_f_p n_p_f s_t s_f s_0 ⊢
    have t0 := Ht.out.cell 0
    have t1 := Ht.out.cell 1
    have t2 := Ht.out.cell 2
    have t3 := Ht.out.cell 3
    have tl := Ht.out.lt
    have f0 := Hf.out.cell 0
    have f1 := Hf.out.cell 1
    have fl := Hf.out.lt
    have p0 := Hp.out.cell 0
    have p1 := Hp.out.cell 1
    have pl := Hp.out.lt
    simp only [List.getElem?_cons_zero, List.getElem?_cons_succ] at t0 t1 t2 t3 f0 f1 p0 p1
    clear s_t
    clear s_f
    have a_p : B0 ≤ gp := by omega
    clear s_0
    have ff0 := Hf.out.frozen 0
    have ff1 := Hf.out.frozen 1
    go_upto_region 3 with (fail)
    go_region
    all_goals go_wp2_with fail
    all_goals refine bodyPost_ret (v := .tuple #[.slice none 0 0, .bool false, fault ec ei]) (by simp [results, Tryz.results16, go_sem, fault, f0, f1, fl]) rfl ?_
    have hbx := HB0.out
    refine ⟨?_, .inl ⟨by rw [Hq.out]; exact h1, by rw [Hq.out]⟩⟩
    repeat' (first | (with_reducible exact Hbl.out) | (with_reducible refine Below.drew ?_) | (with_reducible refine below_setD ?_ ?_ _ _) | (with_reducible refine below_drewN ?_ _) | omega)
  · skip
    have Hmany := hide hmany
    clear hmany
    unfold fault
    go_upto_region 2 with (fail)
    have n_t_p : ¬ gT = w1.heap.size := by omega
    have n_p_t : ¬ w1.heap.size = gT := by omega
    have n_f_p : ¬ gT + 1 = w1.heap.size := by omega
    have n_p_f : ¬ w1.heap.size = gT + 1 := by omega
    have s_t : gT < w1.heap.size := tl
    have s_f : gT + 1 < w1.heap.size := fl
    have s_0 : B0 ≤ w1.heap.size := Nat.le_trans (Nat.le_of_eq HB0.out) Hbl.out.size
    have hyp := Blk.new (w1) 29 [.int .i64 10, .int .i64 (-7)]
    have hbW : Below (w1).heap.size (w1) ((w1).alloc (.cells #[.int .i64 10, .int .i64 (-7)] 29)) := (Below.refl _ _).alloc (Nat.le_refl _) _
    obtain ⟨w2, hW⟩ : ∃ W, W = (w1).alloc (.cells #[.int .i64 10, .int .i64 (-7)] 29) := ⟨_, rfl⟩
    rw [← hW] at hyp hbW ⊢
    replace Ht := hide (Ht.out.keep hbW)
    replace Hf := hide (Hf.out.keep hbW)
    replace Hbl := hide (Hbl.out.trans (hbW.mono Hbl.out.size))
    have Hp := hide hyp
    clear hW hbW hyp
    generalize w1.heap.size = gp at Hp n_t_p n_p_t n_f_p n_p_f s_t s_f s_0 ⊢
    have t0 := Ht.out.cell 0
    have t1 := Ht.out.cell 1
    have t2 := Ht.out.cell 2
    have t3 := Ht.out.cell 3
    have tl := Ht.out.lt
    have f0 := Hf.out.cell 0
    have f1 := Hf.out.cell 1
    have fl := Hf.out.lt
    have p0 := Hp.out.cell 0
    have p1 := Hp.out.cell 1
    have pl := Hp.out.lt
    simp only [List.getElem?_cons_zero, List.getElem?_cons_succ] at t0 t1 t2 t3 f0 f1 p0 p1
    clear s_t
    clear s_f
    have a_p : B0 ≤ gp := by omega
    clear s_0
    have ff0 := Hf.out.frozen 0
    have ff1 := Hf.out.frozen 1
    go_upto_region 3 with (fail)
    go_region
    all_goals go_wp2_with fail
    all_goals refine bodyPost_ret (v := .tuple #[.slice none 0 0, .bool false, fault 10 (-7)]) (by simp [results, Tryz.results16, go_sem, fault, f0, f1, fl]) rfl ?_
    have hbx := HB0.out
    refine ⟨?_, .inr (.inl ⟨by rw [Hq.out]; exact h1, Hmany.out, rfl⟩)⟩
    repeat' (first | (with_reducible exact Hbl.out) | (with_reducible refine Below.drew ?_) | (with_reducible refine below_setD ?_ ?_ _ _) | (with_reducible refine below_drewN ?_ _) | omega)
  · skip
    obtain ⟨N, hok⟩ := taskFault_ok (T := T) (by rw [Hq.out]; exact h1)
    have hN := hok.low
    have hf : T.facts = (N : Int) := hok.facts
    have HW := hide (hW w1 (Chg.refl _ _))
    have Hrow := hide hrow
    have Hlist := hide hlist
    have Hok := hide hok
    clear hW hrow hlist hok
    unfold fault
    go_upto_region 2 with (fail)
    have n_t_p : ¬ gT = w1.heap.size := by omega
    have n_p_t : ¬ w1.heap.size = gT := by omega
    have n_f_p : ¬ gT + 1 = w1.heap.size := by omega
    have n_p_f : ¬ w1.heap.size = gT + 1 := by omega
    have s_t : gT < w1.heap.size := tl
    have s_f : gT + 1 < w1.heap.size := fl
    have s_0 : B0 ≤ w1.heap.size := Nat.le_trans (Nat.le_of_eq HB0.out) Hbl.out.size
    have hyp := Blk.new (w1) 29 [.int .i64 0, .int .i64 0]
    have hbW : Below (w1).heap.size (w1) ((w1).alloc (.cells #[.int .i64 0, .int .i64 0] 29)) := (Below.refl _ _).alloc (Nat.le_refl _) _
    obtain ⟨w2, hW⟩ : ∃ W, W = (w1).alloc (.cells #[.int .i64 0, .int .i64 0] 29) := ⟨_, rfl⟩
    rw [← hW] at hyp hbW ⊢
    replace Ht := hide (Ht.out.keep hbW)
    replace Hf := hide (Hf.out.keep hbW)
    replace HW := hide (HW.out.keep hbW)
    replace Hrow := hide (Hrow.out.keep hbW)
    replace Hbl := hide (Hbl.out.trans (hbW.mono Hbl.out.size))
    have Hp := hide hyp
    clear hW hbW hyp
    generalize w1.heap.size = gp at Hp n_t_p n_p_t n_f_p n_p_f s_t s_f s_0 ⊢
    have t0 := Ht.out.cell 0
    have t1 := Ht.out.cell 1
    have t2 := Ht.out.cell 2
    have t3 := Ht.out.cell 3
    have tl := Ht.out.lt
    have f0 := Hf.out.cell 0
    have f1 := Hf.out.cell 1
    have fl := Hf.out.lt
    have p0 := Hp.out.cell 0
    have p1 := Hp.out.cell 1
    have pl := Hp.out.lt
    simp only [List.getElem?_cons_zero, List.getElem?_cons_succ] at t0 t1 t2 t3 f0 f1 p0 p1
    clear s_t
    clear s_f
    have a_p : B0 ≤ gp := by omega
    clear s_0
    have hns := NewStore_ct N hN w2
    rw [← hf] at hns
    have Hns := hide hns
    clear hns hf
    have q_t := tl
    have q_f := fl
    have KW := HW
    have Krow := Hrow
    have Kt := Ht
    have Kf := Hf
    have Kp := Hp
    have Kbl := Hbl
    go_wp2_with fail
    with_reducible refine Hns.out.mono ?_
    rintro e w3 ⟨hb, gs, bf, bp, rfl, hst⟩
    have Hst := hide hst
    have Hb2 := hide hb
    clear hst Hns
    clear t0 t1 t2 t3 f0 f1 p0 p1 tl fl pl
    replace Hbl := hide (Kbl.out.trans (Hb2.out.mono Kbl.out.size))
    clear hb
    replace Ht := hide (Kt.out.keep Hb2.out)
    replace Hf := hide (Kf.out.keep Hb2.out)
    replace Hp := hide (Kp.out.keep Hb2.out)
    have t0 := Ht.out.cell 0
    have t1 := Ht.out.cell 1
    have t2 := Ht.out.cell 2
    have t3 := Ht.out.cell 3
    have tl := Ht.out.lt
    have f0 := Hf.out.cell 0
    have f1 := Hf.out.cell 1
    have fl := Hf.out.lt
    have p0 := Hp.out.cell 0
    have p1 := Hp.out.cell 1
    have pl := Hp.out.lt
    simp only [List.getElem?_cons_zero, List.getElem?_cons_succ] at t0 t1 t2 t3 f0 f1 p0 p1
    obtain ⟨q, hq⟩ : ∃ q, q = L.length := ⟨_, rfl⟩
    have hfew := Hlist.out.few
    have hrow := Krow.out
    rw [← hq] at hfew hrow ⊢
    have hrl := hrow.rd.low
    replace Krow := hide hrow
    have Hlen := hide hq
    have hset : ∀ x ∈ L, ∃ s, setB N s = true ∧ x = wordF s := fun x hx => reach_set Hok.out ((Hlist.out.all.mem x).1 hx)
    have Hset := hide hset
    clear hrow hq hset Hrow HW
    go_wp2_with fail
    clear t0 t1 t2 t3 f0 f1 p0 p1 tl fl pl
    go_loopw [9, 27] (fun o i wr => ∃ (k Ck all : Nat) (ns : List BN), k ≤ q ∧ i = .int .i64 k ∧ o = .int .i64 (all : Nat) ∧ Below w2.heap.size w2 wr ∧ St N w2.heap.size gs bf bp wr ns Ck ∧ Ck ≤ 33554456 * k ∧ all < ns.length + 2 ∧ wordsD N (L.take k) (sem ns all) ∧ (∀ x ∈ L.take k, goalW (wordF T.goal) x = false)) (fun _ i _ => q - (intOf i).toNat)
    case atStart => exact ⟨0, 0, 0, [], by omega, rfl, rfl, Hb2.out, Hst.out, by omega, by simp, (fun s => by rw [sem_zero]; simp), (fun x hx => by simp at hx)⟩
    case round =>
      obtain ⟨k, Ck, all, ns, hk, rfl, rfl, hb, hstk, hCk, hall, hwd, hng⟩ := hrel
      have Hstk := hide hstk
      have Hwd := hide hwd
      have Hng := hide hng
      replace Hb2 := hide hb
      replace Hbl := hide (Kbl.out.trans (hb.mono Kbl.out.size))
      clear hstk hwd hng hb
      replace Ht := hide (Kt.out.keep Hb2.out)
      replace Hf := hide (Kf.out.keep Hb2.out)
      replace Hp := hide (Kp.out.keep Hb2.out)
      have t0 := Ht.out.cell 0
      have t1 := Ht.out.cell 1
      have t2 := Ht.out.cell 2
      have t3 := Ht.out.cell 3
      have tl := Ht.out.lt
      have f0 := Hf.out.cell 0
      have f1 := Hf.out.cell 1
      have fl := Hf.out.lt
      have p0 := Hp.out.cell 0
      have p1 := Hp.out.cell 1
      have pl := Hp.out.lt
      simp only [List.getElem?_cons_zero, List.getElem?_cons_succ] at t0 t1 t2 t3 f0 f1 p0 p1
      by_cases hlt : k < q
      rotate_left
      · obtain rfl : k = q := by omega
        have hpt := paths_ct Hstk.out hall
        have Hpt := hide hpt
        have hfw := fl
        clear hpt
        go_wp2_with fail
        with_reducible refine Hpt.out.mono ?_
        rintro e w5 ⟨hb, P, np, pc, rfl, hrd⟩
        have Hrd := hide hrd
        clear hrd
        clear t0 t1 t2 t3 f0 f1 p0 p1 tl fl pl
        replace Ht := hide (Ht.out.keep hb)
        replace Hf := hide (Hf.out.keep hb)
        replace Hp := hide (Hp.out.keep hb)
        replace Hbl := hide (Hbl.out.trans (hb.mono Hbl.out.size))
        clear hb
        have t0 := Ht.out.cell 0
        have t1 := Ht.out.cell 1
        have t2 := Ht.out.cell 2
        have t3 := Ht.out.cell 3
        have tl := Ht.out.lt
        have f0 := Hf.out.cell 0
        have f1 := Hf.out.cell 1
        have fl := Hf.out.lt
        have p0 := Hp.out.cell 0
        have p1 := Hp.out.cell 1
        have pl := Hp.out.lt
        simp only [List.getElem?_cons_zero, List.getElem?_cons_succ] at t0 t1 t2 t3 f0 f1 p0 p1
        have ff0 := Hf.out.frozen 0
        have ff1 := Hf.out.frozen 1
        go_wp2_with fail
        refine bodyPost_ret (v := .tuple #[.slice P np pc, .bool true, fault 0 0]) (by simp [results, Tryz.results16, go_sem, fault, f0, f1, fl]) rfl ?_
        have hbx := HB0.out
        have ht : L.take k = L := List.take_of_length_le (by rw [Hlen.out]; exact Nat.le_refl _)
        obtain ⟨c1, c2, c3⟩ := canon_ok Hstk.out.ok hall
        have hmd := made_paths (T := T) hN Hset.out c1 c2 (fun s => by rw [c3]; have := Hwd.out s; rwa [ht] at this)
        refine ⟨?_, .inr (.inr ⟨by rw [Hq.out]; exact h1, L, Hlist.out, .inr ⟨fun x hx => Hng.out x (by rw [ht]; exact hx), N, P, np, pc, _, Hok.out, hmd, ?_, rfl⟩⟩)⟩
        · repeat' (first | (with_reducible exact Hbl.out) | (with_reducible refine Below.drew ?_) | (with_reducible refine below_setD ?_ ?_ _ _) | (with_reducible refine below_drewN ?_ _) | omega)
        · refine Hrd.out _ ?_
          repeat' (first | (with_reducible exact Chg.refl _ _) | (with_reducible refine Chg.trans ?_ (Chg.mono (Chg.set _ _ _ _) (fun i e => ?_))) | (with_reducible exact Chg.of_below (Below.drew (Below.refl _ _)) _) | (subst e; omega))
      obtain ⟨b, off, x, rfl, hx, hx32, g0⟩ := (Krow.out.rd.keep Hb2.out).word hlt
      have hki : (k : Int) < (q : Int) := by omega
      have hgo := Goal_ct g _ _ _ x wr (KW.out.keep Hb2.out) hx32
      obtain ⟨v1, hv1⟩ : ∃ z, z = goalW (wordF T.goal) x := ⟨_, rfl⟩
      rw [← hv1] at hgo
      have Hgo := hide hgo
      have Hv1 := hide hv1
      have Hx := hide hx
      clear hgo hv1 hx
      go_wp2_with fail
      with_reducible refine Hgo.out.mono ?_
      rintro e w4 ⟨rfl, hq4⟩
      have hb := hq4.below wr.heap.size
      replace Hstk := hide (Hstk.out.keep hb)
      replace Hb2 := hide (Hb2.out.trans (hb.mono Hb2.out.size))
      replace Hbl := hide (Kbl.out.trans (Hb2.out.mono Kbl.out.size))
      clear hb hq4
      clear t0 t1 t2 t3 f0 f1 p0 p1 tl fl pl
      replace Ht := hide (Kt.out.keep Hb2.out)
      replace Hf := hide (Kf.out.keep Hb2.out)
      replace Hp := hide (Kp.out.keep Hb2.out)
      have t0 := Ht.out.cell 0
      have t1 := Ht.out.cell 1
      have t2 := Ht.out.cell 2
      have t3 := Ht.out.cell 3
      have tl := Ht.out.lt
      have f0 := Hf.out.cell 0
      have f1 := Hf.out.cell 1
      have fl := Hf.out.lt
      have p0 := Hp.out.cell 0
      have p1 := Hp.out.cell 1
      have pl := Hp.out.lt
      simp only [List.getElem?_cons_zero, List.getElem?_cons_succ] at t0 t1 t2 t3 f0 f1 p0 p1
      cases v1 with
      | true =>
        have ff0 := Hf.out.frozen 0
        have ff1 := Hf.out.frozen 1
        go_wp2_with fail
        refine bodyPost_ret (v := .tuple #[.slice none 0 0, .bool false, fault 0 0]) (by simp [results, Tryz.results16, go_sem, fault, f0, f1, fl]) rfl ?_
        have hbx := HB0.out
        refine ⟨?_, .inr (.inr ⟨by rw [Hq.out]; exact h1, L, Hlist.out, .inl ⟨⟨x, List.mem_of_getElem? Hx.out, Hv1.out.symm⟩, rfl⟩⟩)⟩
        repeat' (first | (with_reducible exact Hbl.out) | (with_reducible refine Below.drew ?_) | (with_reducible refine below_setD ?_ ?_ _ _) | (with_reducible refine below_drewN ?_ _) | omega)
      | false =>
        have hcu := Cube_ct Hstk.out hx32 (by omega)
        have Hcu := hide hcu
        clear hcu
        go_wp2_with fail
        with_reducible refine Hcu.out.mono ?_
        rintro e w6 ⟨ms1, kc, rfl, hs6, hK6, hkc, hqc⟩
        have hb6 := hK6.below Hstk.out.base
        have hl1 : ns.length ≤ (ns ++ ms1).length := len_more _ _
        have hor := Or_ct hs6 (a := all) (b := kc) (by omega) hkc (by omega)
        have Hok0 := hide Hstk.out.ok
        have Hs6 := hide hs6
        have Hor := hide hor
        have Hqc := hide hqc
        have Hb6 := hide hb6
        clear hor hqc hs6 hK6 hb6
        clear t0 t1 t2 t3 f0 f1 p0 p1 tl fl pl
        go_wp2_with fail
        with_reducible refine Hor.out.mono ?_
        rintro e w7 ⟨ms2, kn, rfl, hs7, hK7, hkn, hqn⟩
        have hb7 := hK7.below Hs6.out.base
        replace Hb2 := hide ((Hb2.out.trans Hb6.out).trans hb7)
        have Hs7 := hide hs7
        have Hqn := hide hqn
        clear hs7 hK7 hb7 hqn
        go_wp2_with fail
        go_roundw
        case rel =>
          refine ⟨k + 1, _, kn, _, by omega, by go_num, rfl, Hb2.out, Hs7.out, by omega, hkn, ?_, fun y hy => ?_⟩
          · rw [List.take_add_one, Hx.out]
            exact wordsD_snoc (c := fun s => sem (ns ++ ms1) kc s) Hwd.out Hqc.out (fun s => by rw [Hqn.out, sem_add Hok0.out ms1 hall])
          · rw [List.take_add_one, Hx.out, List.mem_append] at hy
            rcases hy with hy | hy
            · exact Hng.out y hy
            · simp at hy; subst hy; exact Hv1.out.symm
        case measure => simp [intOf]; omega
end Go.Proofs.YtmjiiddncbhgpaaGreat
namespace Go.Proofs.YtmjiiddncbhgpaaGreat
set_option linter.unusedVariables false
set_option linter.unusedSimpArgs false
open Go.RowKit
theorem one_lowD {w : World} {g : Nat} {x : Int} (hb : Blk 3 w g [.int .i64 x]) (hx : -1000 ≤ x ∧ x ≤ 1000) : Rd Enc.int w (some ⟨g, 0, none⟩) 1 1 [x] :=
  Rd.lit_ints [x] hb (by simp) (fun y hy => by simp at hy; subst hy; exact hx)
def stuckT : Tsk := ⟨1, [], [0], []⟩
def taskVD (T : Tsk) (a : TA) : Value := .agg #[.int .i64 T.facts, .slice a.I a.nI a.cI, .slice a.G a.nG a.cG, .slice a.O a.nO a.cO]
def StuckP (w : World) (e : Ending) (w' : World) : Prop := Below w.heap.size w w' ∧ ∃ a : TA, e = .returned (taskVD stuckT a) ∧ TkR w' a stuckT
theorem stuck_mem (w : World) (X0 : Obj) : StuckP w (.returned (.agg #[.int .i64 1, .slice none 0 0, .slice (some ⟨w.heap.size + 1, 0, none⟩) 1 1, .slice none 0 0])) ((w.alloc X0).alloc (.cells #[.int .i64 0] 3)) := by
  have b1 := Blk.new (w.alloc X0) 3 [.int .i64 0]
  simp only [World.size_alloc] at b1
  have hb : Below w.heap.size w ((w.alloc X0).alloc (.cells #[.int .i64 0] 3)) := ((Below.refl w.heap.size w).alloc (Nat.le_refl _) X0).alloc (by simp only [World.size_alloc]; omega) _
  exact ⟨hb, ⟨none, 0, 0, some ⟨w.heap.size + 1, 0, none⟩, 1, 1, none, 0, 0⟩, rfl, ⟨by unfold stuckT I64s; simp, Rd.nil_ _ _, one_lowD b1 (by omega), Rd.nil_ _ _⟩⟩
set_option maxRecDepth 100000 in
set_option maxHeartbeats 3200000 in
theorem stuck_ct (w : World) : Calls Tryz.prog 34 #[] w (StuckP w) := by
  go_enter Tryz.func34, Tryz.ntmps34
  go_wp2_with fail
  exact bodyPost_ret (v := .agg #[.int .i64 1, .slice none 0 0, .slice (some ⟨w.heap.size + 1, 0, none⟩) 1 1, .slice none 0 0]) (by simp [results, Tryz.results34, go_sem]) rfl (stuck_mem w _)
theorem stuck_tf : taskFault stuckT = (0, 0) := by decide +kernel
theorem stuck_sets : setsF stuckT [⟨[], [0]⟩] = (0, 0) := by decide +kernel
theorem stuck_cov : covF stuckT [⟨[], [0]⟩] [] = (true, 0, 0) := by decide +kernel
theorem stuck_proof : Proof stuckT [⟨[], [0]⟩] := ⟨by decide +kernel, fun c hc => by
  have : c = ⟨[], [0]⟩ := by simpa using hc
  subst this
  decide +kernel, fun c _ o ho => by simp [stuckT] at ho⟩
theorem stuck_reach {x : Nat} (h : Reach (stepW (stuckT.ops.map mkOp)) (wordF stuckT.init) x) : x = 0 := by
  have h0 : wordF stuckT.init = 0 := by decide +kernel
  rw [h0] at h
  induction h with
  | start => rfl
  | step hr hs ih =>
    obtain ⟨m, hm, _⟩ := hs
    simp [stuckT] at hm
theorem stuck_list {l : List Nat} (h : ListOf stuckT l) : l = [0] := by
  have h0 : wordF stuckT.init = 0 := by decide +kernel
  have hst : Reach (stepW (stuckT.ops.map mkOp)) (wordF stuckT.init) 0 := by
    have := Reach.start (S := stepW (stuckT.ops.map mkOp)) (s0 := wordF stuckT.init)
    rwa [h0] at this ⊢
  have hm : ∀ x, x ∈ l ↔ x = 0 := fun x => ⟨fun hx => stuck_reach ((h.all.mem x).1 hx), fun e => by subst e; exact (h.all.mem 0).2 hst⟩
  have hnd := h.all.once
  match l, hm, hnd with
  | [], hm, _ => exact absurd ((hm 0).2 rfl) (by simp)
  | [a], hm, _ => rw [(hm a).1 (by simp)]
  | a :: b :: r, hm, hnd =>
    have e1 := (hm a).1 (by simp)
    have e2 := (hm b).1 (by simp)
    simp [e1, e2] at hnd
theorem stuck_many : ¬ TooMany stuckT := fun ⟨m, h1, h2, h3⟩ => by
  have := nodup_len h1 (l := [0]) (fun x hx => by rw [stuck_reach (h2 x hx)]; simp)
  simp at this
  omega
theorem stuck_one {N : Nat} {l : List Nat} {cs : List SS} (hN : OkT stuckT N) (h : ListOf stuckT l) (hm : MadeD N stuckT l cs) : cs.length = 1 := by
  have hl := stuck_list h
  subst hl
  have h1 := hm.few
  have h0 : wordF ([] : List Int) = 0 := by decide +kernel
  have h2 := (hm.mem [] (setB_iff.2 (by simp))).2 (by rw [h0]; simp)
  cases cs with
  | nil => cases h2
  | cons c cs => simp at h1 ⊢; exact h1
set_option maxRecDepth 100000 in
set_option maxHeartbeats 6400000 in
theorem deadendExample_ct (w : World) : Calls Tryz.prog 8 #[] w (Gives w (.bool true)) := by
  have Hbl := hide (Below.refl w.heap.size w)
  go_enter Tryz.func8, Tryz.ntmps8
  obtain ⟨B0, hB0⟩ : ∃ B0, B0 = w.heap.size := ⟨_, rfl⟩
  have HB0 := hide hB0
  clear hB0
  go_upto_region 2 with (fail)
  have b1 := (Blk.new w 3 [.int .i64 0]).alloc (.cells #[.slice none 0 0, .slice (some ⟨w.heap.size, 0, none⟩) 1 1] 70)
  have b2 := Blk.new (w.alloc (.cells #[.int .i64 0] 3)) 70 [.slice none 0 0, .slice (some ⟨w.heap.size, 0, none⟩) 1 1]
  have hbL := below_two w (.cells #[.int .i64 0] 3) (.cells #[.slice none 0 0, .slice (some ⟨w.heap.size, 0, none⟩) 1 1] 70)
  simp only [World.size_alloc] at b2
  have hl0 : Rd Enc.ss ((w.alloc (.cells #[.int .i64 0] 3)).alloc (.cells #[.slice none 0 0, .slice (some ⟨w.heap.size, 0, none⟩) 1 1] 70)) (some ⟨w.heap.size + 1, 0, none⟩) 1 1 [⟨[], [0]⟩] := by
    refine ⟨rfl, Nat.le_refl _, by omega, fun h => (by cases h), fun _ => ⟨w.heap.size + 1, 0, rfl, fun j x hj => ?_⟩⟩
    match j, hj with
    | 0, hj =>
      obtain rfl := Option.some.inj hj
      refine ⟨[.slice none 0 0, .slice (some ⟨w.heap.size, 0, none⟩) 1 1], ⟨none, 0, 0, _, 1, 1, rfl, Rd.nil_ _ _, one_lowD b1 (by omega)⟩, fun i v hi => ?_⟩
      match i, hi with
      | 0, hi => obtain rfl := Option.some.inj hi; exact b2.cell 0
      | 1, hi => obtain rfl := Option.some.inj hi; exact b2.cell 1
      | i + 2, hi => simp at hi
    | j + 1, hj => simp at hj
  obtain ⟨w0, hW⟩ : ∃ W, W = ((w.alloc (.cells #[.int .i64 0] 3)).alloc (.cells #[.slice none 0 0, .slice (some ⟨w.heap.size, 0, none⟩) 1 1] 70)) := ⟨_, rfl⟩
  rw [← hW] at hl0 hbL ⊢
  clear hW b1 b2
  have Hl := hide hl0
  replace Hbl := hide hbL
  clear hl0 hbL
  generalize hA : (some ⟨w.heap.size + 1, 0, none⟩ : Option Addr) = lA at Hl ⊢
  clear hA
  go_wp2_with fail
  with_reducible refine (stuck_ct w0).mono ?_
  rintro e w1 ⟨hb, a, rfl, ht⟩
  have Hta := hide ht
  clear ht
  unfold taskVD
  replace Hl := hide (Hl.out.keep hb)
  replace Hbl := hide (Hbl.out.trans (hb.mono Hbl.out.size))
  clear hb
  have hct := Check_ct a stuckT lA 1 1 _ w1 Hta.out Hl.out
  go_wp2_with fail
  with_reducible refine hct.mono ?_
  rintro e w2 ⟨hb, v1, rfl, hiff⟩
  obtain rfl : v1 = true := hiff.2 ⟨by rw [stuck_sets], stuck_proof⟩
  rw [stuck_sets]
  unfold fault
  clear hct hiff Hta
  replace Hl := hide (Hl.out.keep hb)
  replace Hbl := hide (Hbl.out.trans (hb.mono Hbl.out.size))
  clear hb
  go_upto_region 3 with (fail)
  have s_0 : B0 ≤ w2.heap.size := Nat.le_trans (Nat.le_of_eq HB0.out) Hbl.out.size
  have hyc := Blk.new (w2) 29 [.int .i64 0, .int .i64 0]
  have hbW : Below (w2).heap.size (w2) ((w2).alloc (.cells #[.int .i64 0, .int .i64 0] 29)) := (Below.refl _ _).alloc (Nat.le_refl _) _
  obtain ⟨w3, hW⟩ : ∃ W, W = (w2).alloc (.cells #[.int .i64 0, .int .i64 0] 29) := ⟨_, rfl⟩
  rw [← hW] at hyc hbW ⊢
  replace Hl := hide (Hl.out.keep hbW)
  replace Hbl := hide (Hbl.out.trans (hbW.mono Hbl.out.size))
  have Hc := hide hyc
  clear hW hbW hyc
  generalize w2.heap.size = gc at Hc s_0 ⊢
  have c0 := Hc.out.cell 0
  have c1 := Hc.out.cell 1
  have cl := Hc.out.lt
  simp only [List.getElem?_cons_zero, List.getElem?_cons_succ] at c0 c1
  have a_c : B0 ≤ gc := by omega
  clear s_0
  go_wp2_with fail
  with_reducible refine (stuck_ct w3).mono ?_
  rintro e w4 ⟨hb, b, rfl, ht⟩
  have Htb := hide ht
  clear ht
  unfold taskVD
  clear c0 c1 cl
  replace Hc := hide (Hc.out.keep hb)
  replace Hl := hide (Hl.out.keep hb)
  replace Hbl := hide (Hbl.out.trans (hb.mono Hbl.out.size))
  clear hb
  have c0 := Hc.out.cell 0
  have c1 := Hc.out.cell 1
  have cl := Hc.out.lt
  simp only [List.getElem?_cons_zero, List.getElem?_cons_succ] at c0 c1
  have hct := Covers_ct b stuckT lA 1 1 _ none 0 0 [] w4 Htb.out Hl.out (Rd.nil_ _ _)
  rw [stuck_cov] at hct
  unfold covV fault at hct
  dsimp only at hct
  go_wp2_with fail
  with_reducible refine hct.mono ?_
  rintro e w5 ⟨rfl, hb⟩
  clear hct Htb
  clear c0 c1 cl
  replace Hc := hide (Hc.out.keep hb)
  replace Hl := hide (Hl.out.keep hb)
  replace Hbl := hide (Hbl.out.trans (hb.mono Hbl.out.size))
  clear hb
  have c0 := Hc.out.cell 0
  have c1 := Hc.out.cell 1
  have cl := Hc.out.lt
  simp only [List.getElem?_cons_zero, List.getElem?_cons_succ] at c0 c1
  go_upto_region 4 with (fail)
  have s_c : gc < w5.heap.size := cl
  have s_0 : B0 ≤ w5.heap.size := Nat.le_trans (Nat.le_of_eq HB0.out) Hbl.out.size
  have hyd := Blk.new (w5) 29 [.int .i64 0, .int .i64 0]
  have hbW : Below (w5).heap.size (w5) ((w5).alloc (.cells #[.int .i64 0, .int .i64 0] 29)) := (Below.refl _ _).alloc (Nat.le_refl _) _
  obtain ⟨w6, hW⟩ : ∃ W, W = (w5).alloc (.cells #[.int .i64 0, .int .i64 0] 29) := ⟨_, rfl⟩
  rw [← hW] at hyd hbW ⊢
  replace Hc := hide (Hc.out.keep hbW)
  replace Hl := hide (Hl.out.keep hbW)
  replace Hbl := hide (Hbl.out.trans (hbW.mono Hbl.out.size))
  have Hd := hide hyd
  clear hW hbW hyd
  generalize w5.heap.size = gd at Hd s_c s_0 ⊢
  have c0 := Hc.out.cell 0
  have c1 := Hc.out.cell 1
  have cl := Hc.out.lt
  have d0 := Hd.out.cell 0
  have d1 := Hd.out.cell 1
  have dl := Hd.out.lt
  simp only [List.getElem?_cons_zero, List.getElem?_cons_succ] at c0 c1 d0 d1
  clear s_c
  have a_d : B0 ≤ gd := by omega
  clear s_0
  go_wp2_with fail
  with_reducible refine (stuck_ct w6).mono ?_
  rintro e w7 ⟨hb, d_, rfl, ht⟩
  have Htd_ := hide ht
  clear ht
  unfold taskVD
  clear c0 c1 d0 d1 cl dl
  replace Hc := hide (Hc.out.keep hb)
  replace Hd := hide (Hd.out.keep hb)
  replace Hl := hide (Hl.out.keep hb)
  replace Hbl := hide (Hbl.out.trans (hb.mono Hbl.out.size))
  clear hb
  have c0 := Hc.out.cell 0
  have c1 := Hc.out.cell 1
  have cl := Hc.out.lt
  have d0 := Hd.out.cell 0
  have d1 := Hd.out.cell 1
  have dl := Hd.out.lt
  simp only [List.getElem?_cons_zero, List.getElem?_cons_succ] at c0 c1 d0 d1
  have hct := DMake_ct d_ stuckT w7 Htd_.out
  go_wp2_with fail
  with_reducible refine hct.mono ?_
  rintro e w8 ⟨hb, hor⟩
  rcases hor with ⟨h1, _⟩ | ⟨_, h1, _⟩ | ⟨_, l, hl, ⟨⟨x, hx, hg⟩, _⟩ | ⟨_, N, O, n, oc, cs, hN, hm, hrd, rfl⟩⟩
  · rw [stuck_tf] at h1; exact absurd rfl h1
  · exact absurd h1 stuck_many
  · have e1 := stuck_list hl
    subst e1
    have e2 : x = 0 := by simpa using hx
    subst e2
    exact absurd hg (by decide +kernel)
  obtain rfl : n = 1 := by rw [← hrd.len]; exact stuck_one hN hl hm
  unfold fault
  clear hct Htd_ hrd hm hN hl
  clear c0 c1 d0 d1 cl dl
  replace Hc := hide (Hc.out.keep hb)
  replace Hd := hide (Hd.out.keep hb)
  replace Hl := hide (Hl.out.keep hb)
  replace Hbl := hide (Hbl.out.trans (hb.mono Hbl.out.size))
  clear hb
  have c0 := Hc.out.cell 0
  have c1 := Hc.out.cell 1
  have cl := Hc.out.lt
  have d0 := Hd.out.cell 0
  have d1 := Hd.out.cell 1
  have dl := Hd.out.lt
  simp only [List.getElem?_cons_zero, List.getElem?_cons_succ] at c0 c1 d0 d1
  go_upto_region 5 with (fail)
  have s_c : gc < w8.heap.size := cl
  have s_d : gd < w8.heap.size := dl
  have s_0 : B0 ≤ w8.heap.size := Nat.le_trans (Nat.le_of_eq HB0.out) Hbl.out.size
  have hye := Blk.new (w8) 29 [.int .i64 0, .int .i64 0]
  have hbW : Below (w8).heap.size (w8) ((w8).alloc (.cells #[.int .i64 0, .int .i64 0] 29)) := (Below.refl _ _).alloc (Nat.le_refl _) _
  obtain ⟨w9, hW⟩ : ∃ W, W = (w8).alloc (.cells #[.int .i64 0, .int .i64 0] 29) := ⟨_, rfl⟩
  rw [← hW] at hye hbW ⊢
  replace Hc := hide (Hc.out.keep hbW)
  replace Hd := hide (Hd.out.keep hbW)
  replace Hl := hide (Hl.out.keep hbW)
  replace Hbl := hide (Hbl.out.trans (hbW.mono Hbl.out.size))
  have He := hide hye
  clear hW hbW hye
  generalize w8.heap.size = ge at He s_c s_d s_0 ⊢
  have c0 := Hc.out.cell 0
  have c1 := Hc.out.cell 1
  have cl := Hc.out.lt
  have d0 := Hd.out.cell 0
  have d1 := Hd.out.cell 1
  have dl := Hd.out.lt
  have e0 := He.out.cell 0
  have e1 := He.out.cell 1
  have el := He.out.lt
  simp only [List.getElem?_cons_zero, List.getElem?_cons_succ] at c0 c1 d0 d1 e0 e1
  clear s_c
  clear s_d
  have a_e : B0 ≤ ge := by omega
  clear s_0
  go_wp2_with fail
  go_ret
  exact ⟨ret_bool (by simp), Hbl.out⟩
end Go.Proofs.YtmjiiddncbhgpaaGreat
