/- What the law asks for, part 15: Mh Cq Mc5 Mc8 Ar. -/
import Derived.Test.YtmjiiddncbhgpaaGreatE1
import Derived.Test.YtmjiiddncbhgpaaGreatE2
import Derived.Test.YtmjiiddncbhgpaaGreatE3
import Derived.Test.YtmjiiddncbhgpaaGreatE12
import Derived.Test.YtmjiiddncbhgpaaGreatE13
import Derived.Test.YtmjiiddncbhgpaaGreatE14
import Derived.BigQuiet
import Derived.Deep.AppendLies
import Derived.Deep.DeepCutAuto
import Derived.Deep.Draws
import Derived.Deep.Fields
import Derived.Deep.LoopGhost
import Derived.Deep.QuietTactic
import Derived.Deep.RegionHeld3
import Derived.Deep.Slices
import Derived.Ground.Names2Prog
import Derived.Ground.SlgnProg
import Derived.Ground.SlsfProg
import Derived.IntWalk
import Derived.Laws.AppendOwnNone
import Derived.Laws.OwnMore
import Derived.Lib.Hide
import Derived.Lib.SlicesCompact
import Derived.Maps.AppendAt
import Derived.Shelf.Slices.Cells
import Derived.Shelf.Slices.Clone
import Derived.Shelf.Slices.CompactI
import Derived.Shelf.Slices.Empties
import Derived.Shelf.Slices.In.SortNone
import Derived.Shelf.Slices.SearchI
import Derived.Shelf.Sort.Plain
import Derived.Sort.OwnSortedInts
import Derived.Test.YtmjiiddncbhgpaaGreatProg
import Derived.WalkKit
namespace Go.Proofs.YtmjiiddncbhgpaaGreat
set_option linter.unusedVariables false
set_option linter.unusedSimpArgs false
open Go.RowKit
def costF (os : List Opr) (l : List Int) : Int := (l.map fun x => (opAt os x).cost).sum
theorem costF_succ {os : List Opr} {l : List Int} {k : Nat} {x : Int} (h : l[k]? = some x) : costF os (l.take (k + 1)) = costF os (l.take k) + (opAt os x).cost := by
  unfold costF
  rw [List.take_add_one, h]
  simp
end Go.Proofs.YtmjiiddncbhgpaaGreat
namespace Go.Proofs.YtmjiiddncbhgpaaGreat
set_option linter.unusedVariables false
set_option linter.unusedSimpArgs false
open Go.RowKit
/-- what is known of a fact: its state, whether it changed, whether it is asked for -/
structure FS where
  now : Int
  ch : Bool
  pr : Bool
def factStep (p : Int) (o : Opr) (s : FS) : Option FS :=
  if hasB o.pre p = true ∧ s.now < 0 then none else
  some ⟨if hasB o.del p = true then -1 else if hasB o.add p = true then 1 else if hasB o.pre p = true ∧ s.now = 0 then 1 else s.now, s.ch || hasB o.add p || hasB o.del p, s.pr || (hasB o.pre p && decide (s.now = 0))⟩
def factRun (p : Int) : FS → List Opr → Option FS
  | s, [] => some s
  | s, o :: os => match factStep p o s with
    | none => none
    | some s' => factRun p s' os
def fr (os : List Opr) (p : Int) : Option FS := factRun p ⟨0, false, false⟩ os
end Go.Proofs.YtmjiiddncbhgpaaGreat
namespace Go.Proofs.YtmjiiddncbhgpaaGreat
set_option linter.unusedVariables false
set_option linter.unusedSimpArgs false
open Go.RowKit
/-- the rows of a copy that is being made -/
structure CpA where
  gT : Nat
  gO : Nat
  B0 : Nat
  H1 : Nat
  AI : Option Addr
  nI : Nat
  cI : Nat
  AG : Option Addr
  nG : Nat
  cG : Nat
section
variable {w W W' : World} {T : Tsk} {tc : List Value} {a : CpA} {k oc : Nat} {O : Option Addr} {vs : List Value}
end
end Go.Proofs.YtmjiiddncbhgpaaGreat
namespace Go.Proofs.YtmjiiddncbhgpaaGreat
set_option linter.unusedVariables false
set_option linter.unusedSimpArgs false
open Go.RowKit
structure ExA where
  gT : Nat
  gX : Nat
  B : Nat
  Bl : Nat
  AI : Option Addr
  nI : Nat
  cI : Nat
  AG : Option Addr
  nG : Nat
  cG : Nat
section
variable {w W W' : World} {T : Tsk} {tc : List Value} {a : ExA} {n oc : Nat} {O : Option Addr} {vs : List Value} {os : List Opr}
end
end Go.Proofs.YtmjiiddncbhgpaaGreat
namespace Go.Proofs.YtmjiiddncbhgpaaGreat
set_option linter.unusedVariables false
set_option linter.unusedSimpArgs false
open Go.RowKit
theorem below_setA {B : Nat} {w w' : World} (h : Below B w w') {g : Nat} (hg : B ≤ g) (i : Nat) (u : Value) : Below B w (w'.setCell ⟨g, i, none⟩ u) := h.setCell hg u
def resV (f : Bool) (A : Option Addr) (n c : Nat) (cost k : Int) : Value := .agg #[.bool f, .slice A n c, .int .i64 cost, .int .i64 k]
/-- the result of a search: of a plan that is too long a fault -/
def ResP (w : World) (T : Tsk) (A : Option Addr) (n c : Nat) (l : List Int) (f : Bool) (k : Int) (e : Ending) (w' : World) : Prop :=
  Below w.heap.size w w' ∧ ((60 < n ∧ e = .returned (.tuple #[resV false none 0 0 0 0, fault 10 (-9)])) ∨ (n ≤ 60 ∧ e = .returned (.tuple #[resV f A n c (costF T.ops l) k, fault 0 0])))
theorem cost_take {T : Tsk} {l : List Int} (hc : ∀ x ∈ l, 0 ≤ (opAt T.ops x).cost ∧ (opAt T.ops x).cost ≤ 100) : ∀ j, 0 ≤ costF T.ops (l.take j) ∧ costF T.ops (l.take j) ≤ 100 * j := by
  intro j
  induction j with
  | zero => simp [costF]
  | succ j ih =>
    cases h : l[j]? with
    | none =>
      rw [List.take_of_length_le (by have := List.getElem?_eq_none_iff.1 h; omega)] at ih ⊢
      omega
    | some x =>
      rw [costF_succ h]
      have := hc x (List.mem_of_getElem? h)
      omega
set_option maxRecDepth 100000 in
set_option maxHeartbeats 6400000 in
theorem Result_ct (a : TA) (T : Tsk) (A : Option Addr) (n c : Nat) (l : List Int) (fd : Bool) (kx : Int) (w : World) (h : TkR w a T) (hl : Rd Enc.int w A n c l) (hr : ∀ x ∈ l, 0 ≤ x ∧ x < T.ops.length) (hc : ∀ x ∈ l, 0 ≤ (opAt T.ops x).cost ∧ (opAt T.ops x).cost ≤ 100) :
    Calls Tryz.prog 82 #[.agg #[.int .i64 T.facts, .slice a.I a.nI a.cI, .slice a.G a.nG a.cG, .slice a.O a.nO a.cO], .slice A n c, .bool fd, .int .i64 kx] w (ResP w T A n c l fd kx) := by
  have hlO := h.ops.len
  have hlow := h.ops.low
  have hll := hl.len
  obtain ⟨I, nI, cI, G, nG, cG, O, nO, cO⟩ := a
  simp only at hlO hlow ⊢
  have hlm := hl.low
  have H := hide h
  have Hl := hide hl
  have Hll := hide hll
  have HlO := hide hlO
  have Hr := hide hr
  have Hc := hide hc
  clear h hl hlO hr hc hll
  have Hbl := hide (Below.refl w.heap.size w)
  go_enter Tryz.func82, Tryz.ntmps82
  go_upto_region 1 with (fail)
  obtain ⟨B0, hB0⟩ : ∃ B0, B0 = w.heap.size := ⟨_, rfl⟩
  have HB0 := hide hB0
  clear hB0
  have s_0 : B0 ≤ w.heap.size := Nat.le_trans (Nat.le_of_eq HB0.out) Hbl.out.size
  have hyt := Blk.new (w) 25 [.int .i64 T.facts, .slice I nI cI, .slice G nG cG, .slice O nO cO]
  have hyr_ := Blk.new ((w).alloc (.cells #[.int .i64 T.facts, .slice I nI cI, .slice G nG cG, .slice O nO cO] 25)) 66 [.bool false, .slice none 0 0, .int .i64 0, .int .i64 0]
  replace hyt := hyt.alloc (.cells #[.bool false, .slice none 0 0, .int .i64 0, .int .i64 0] 66)
  have hyf := Blk.new (((w).alloc (.cells #[.int .i64 T.facts, .slice I nI cI, .slice G nG cG, .slice O nO cO] 25)).alloc (.cells #[.bool false, .slice none 0 0, .int .i64 0, .int .i64 0] 66)) 29 [.int .i64 0, .int .i64 0]
  replace hyt := hyt.alloc (.cells #[.int .i64 0, .int .i64 0] 29)
  replace hyr_ := hyr_.alloc (.cells #[.int .i64 0, .int .i64 0] 29)
  have hbW := below_three w (.cells #[.int .i64 T.facts, .slice I nI cI, .slice G nG cG, .slice O nO cO] 25) (.cells #[.bool false, .slice none 0 0, .int .i64 0, .int .i64 0] 66) (.cells #[.int .i64 0, .int .i64 0] 29)
  simp only [World.size_alloc] at hyr_ hyf
  obtain ⟨w0, hW⟩ : ∃ W, W = (((w).alloc (.cells #[.int .i64 T.facts, .slice I nI cI, .slice G nG cG, .slice O nO cO] 25)).alloc (.cells #[.bool false, .slice none 0 0, .int .i64 0, .int .i64 0] 66)).alloc (.cells #[.int .i64 0, .int .i64 0] 29) := ⟨_, rfl⟩
  rw [← hW] at hyt hyr_ hyf hbW ⊢
  replace Hbl := hide (Hbl.out.trans (hbW.mono Hbl.out.size))
  have Ht := hide hyt
  have Hr_ := hide hyr_
  have Hf := hide hyf
  clear hW hbW hyt hyr_ hyf
  generalize w.heap.size = gT at Ht Hr_ Hf s_0 ⊢
  have t0 := Ht.out.cell 0
  have t1 := Ht.out.cell 1
  have t2 := Ht.out.cell 2
  have t3 := Ht.out.cell 3
  have tl := Ht.out.lt
  have r_0 := Hr_.out.cell 0
  have r_1 := Hr_.out.cell 1
  have r_2 := Hr_.out.cell 2
  have r_3 := Hr_.out.cell 3
  have r_l := Hr_.out.lt
  have f0 := Hf.out.cell 0
  have f1 := Hf.out.cell 1
  have fl := Hf.out.lt
  simp only [List.getElem?_cons_zero, List.getElem?_cons_succ] at t0 t1 t2 t3 r_0 r_1 r_2 r_3 f0 f1
  have a_t : B0 ≤ gT := by omega
  have a_r_ : B0 ≤ gT + 1 := by omega
  have a_f : B0 ≤ gT + 1 + 1 := by omega
  clear s_0
  have n_t_r_ : ¬ gT = gT + 1 := by omega
  have n_t_f : ¬ gT = gT + 1 + 1 := by omega
  have n_r__t : ¬ gT + 1 = gT := by omega
  have n_r__f : ¬ gT + 1 = gT + 1 + 1 := by omega
  have n_f_t : ¬ gT + 1 + 1 = gT := by omega
  have n_f_r_ : ¬ gT + 1 + 1 = gT + 1 := by omega
  by_cases h60 : 60 < n
  · have h60i : (60 : Int) < (n : Int) := by omega
    have ff0 := Hf.out.frozen 0
    have ff1 := Hf.out.frozen 1
    have rf0 := Hr_.out.frozen 0
    have rf1 := Hr_.out.frozen 1
    have rf2 := Hr_.out.frozen 2
    have rf3 := Hr_.out.frozen 3
    go_wp2_with fail
    refine bodyPost_ret (v := .tuple #[resV false none 0 0 0 0, fault 10 (-9)]) (by simp [results, Tryz.results82, go_sem, fault, resV, f0, f1, fl, r_0, r_1, r_2, r_3, r_l]) rfl ?_
    have hbx := HB0.out
    refine ⟨?_, .inl ⟨h60, rfl⟩⟩
    repeat' (first | (with_reducible exact Hbl.out) | (with_reducible refine Below.drew ?_) | (with_reducible refine below_setA ?_ ?_ _ _) | (with_reducible refine below_drewN ?_ _) | omega)
  have h60i : ¬ (60 : Int) < (n : Int) := by omega
  go_upto_region 4 with (fail)
  have n_t_o_ : ¬ gT = w0.heap.size := by omega
  have n_o__t : ¬ w0.heap.size = gT := by omega
  have n_r__o_ : ¬ gT + 1 = w0.heap.size := by omega
  have n_o__r_ : ¬ w0.heap.size = gT + 1 := by omega
  have n_f_o_ : ¬ gT + 1 + 1 = w0.heap.size := by omega
  have n_o__f : ¬ w0.heap.size = gT + 1 + 1 := by omega
  have s_t : gT < w0.heap.size := tl
  have s_r_ : gT + 1 < w0.heap.size := r_l
  have s_f : gT + 1 + 1 < w0.heap.size := fl
  have s_0 : B0 ≤ w0.heap.size := Nat.le_trans (Nat.le_of_eq HB0.out) Hbl.out.size
  have hyo_ := Blk.new (w0) 66 [.bool fd, .slice A n c, .int .i64 0, .int .i64 kx]
  have hbW : Below (w0).heap.size (w0) ((w0).alloc (.cells #[.bool fd, .slice A n c, .int .i64 0, .int .i64 kx] 66)) := (Below.refl _ _).alloc (Nat.le_refl _) _
  obtain ⟨w1, hW⟩ : ∃ W, W = (w0).alloc (.cells #[.bool fd, .slice A n c, .int .i64 0, .int .i64 kx] 66) := ⟨_, rfl⟩
  rw [← hW] at hyo_ hbW ⊢
  replace Ht := hide (Ht.out.keep hbW)
  replace Hr_ := hide (Hr_.out.keep hbW)
  replace Hf := hide (Hf.out.keep hbW)
  replace Hbl := hide (Hbl.out.trans (hbW.mono Hbl.out.size))
  have Ho_ := hide hyo_
  clear hW hbW hyo_
  generalize w0.heap.size = go at Ho_ n_t_o_ n_o__t n_r__o_ n_o__r_ n_f_o_ n_o__f s_t s_r_ s_f s_0 ⊢
  have t0 := Ht.out.cell 0
  have t1 := Ht.out.cell 1
  have t2 := Ht.out.cell 2
  have t3 := Ht.out.cell 3
  have tl := Ht.out.lt
  have r_0 := Hr_.out.cell 0
  have r_1 := Hr_.out.cell 1
  have r_2 := Hr_.out.cell 2
  have r_3 := Hr_.out.cell 3
  have r_l := Hr_.out.lt
  have f0 := Hf.out.cell 0
  have f1 := Hf.out.cell 1
  have fl := Hf.out.lt
  have o_0 := Ho_.out.cell 0
  have o_1 := Ho_.out.cell 1
  have o_2 := Ho_.out.cell 2
  have o_3 := Ho_.out.cell 3
  have o_l := Ho_.out.lt
  simp only [List.getElem?_cons_zero, List.getElem?_cons_succ] at t0 t1 t2 t3 r_0 r_1 r_2 r_3 f0 f1 o_0 o_1 o_2 o_3
  clear s_t
  clear s_r_
  clear s_f
  have a_o_ : B0 ≤ go := by omega
  clear s_0
  go_wp2_with fail
  have Kt := Ht
  have Kr_ := Hr_
  have Kf := Hf
  have Kbl := Hbl
  clear t0 t1 t2 t3 r_0 r_1 r_2 r_3 f0 f1 o_0 o_1 o_2 o_3 tl r_l fl o_l
  go_loopw [24] (fun i wr => ∃ k : Nat, k ≤ n ∧ i = .int .i64 k ∧ Below w.heap.size w wr ∧ Blk 25 wr gT [.int .i64 T.facts, .slice I nI cI, .slice G nG cG, .slice O nO cO] ∧ Blk 66 wr (gT + 1) [.bool false, .slice none 0 0, .int .i64 0, .int .i64 0] ∧ Blk 29 wr (gT + 1 + 1) [.int .i64 0, .int .i64 0] ∧ Blk 66 wr go [.bool fd, .slice A n c, .int .i64 (costF T.ops (l.take k)), .int .i64 kx]) (fun i _ => n - (intOf i).toNat)
  case atStart => exact ⟨0, by omega, rfl, Kbl.out, Kt.out, Kr_.out, Kf.out, by simpa [costF] using Ho_.out⟩
  case round =>
    obtain ⟨k, hk, rfl, hb, hyt, hyr, hyf, hyo⟩ := hrel
    replace Hbl := hide hb
    replace Ht := hide hyt
    replace Hr_ := hide hyr
    replace Hf := hide hyf
    replace Ho_ := hide hyo
    clear hb hyt hyr hyf hyo
    have hct := cost_take Hc.out k
    by_cases hlt : k < n
    rotate_left
    · obtain rfl : k = n := by omega
      have hki : ¬ (k : Int) < (k : Int) := by omega
      have t0 := Ht.out.cell 0
      have t1 := Ht.out.cell 1
      have t2 := Ht.out.cell 2
      have t3 := Ht.out.cell 3
      have tl := Ht.out.lt
      have r_0 := Hr_.out.cell 0
      have r_1 := Hr_.out.cell 1
      have r_2 := Hr_.out.cell 2
      have r_3 := Hr_.out.cell 3
      have r_l := Hr_.out.lt
      have f0 := Hf.out.cell 0
      have f1 := Hf.out.cell 1
      have fl := Hf.out.lt
      have o_0 := Ho_.out.cell 0
      have o_1 := Ho_.out.cell 1
      have o_2 := Ho_.out.cell 2
      have o_3 := Ho_.out.cell 3
      have o_l := Ho_.out.lt
      simp only [List.getElem?_cons_zero, List.getElem?_cons_succ] at t0 t1 t2 t3 r_0 r_1 r_2 r_3 f0 f1 o_0 o_1 o_2 o_3
      have ff0 := Hf.out.frozen 0
      have ff1 := Hf.out.frozen 1
      have rf0 := Hr_.out.frozen 0
      have rf1 := Hr_.out.frozen 1
      have rf2 := Hr_.out.frozen 2
      have rf3 := Hr_.out.frozen 3
      go_wp2_with fail
      refine bodyPost_ret (v := .tuple #[resV fd A k c (costF T.ops (l.take k)) kx, fault 0 0]) (by simp [results, Tryz.results82, go_sem, fault, resV, f0, f1, fl, r_0, r_1, r_2, r_3, r_l, o_0, o_1, o_2, o_3, o_l]) rfl ?_
      have hbx := HB0.out
      refine ⟨?_, .inr ⟨by omega, by rw [List.take_of_length_le (by rw [Hll.out]; exact Nat.le_refl _)]⟩⟩
      repeat' (first | (with_reducible exact Hbl.out) | (with_reducible refine Below.drew ?_) | (with_reducible refine below_setA ?_ ?_ _ _) | (with_reducible refine below_drewN ?_ _) | omega)
    · have hki : (k : Int) < (n : Int) := by omega
      obtain ⟨b, off, x, rfl, hxx, hxl, hxh, hcx⟩ := (Hl.out.keep Hbl.out).int hlt
      obtain ⟨hx0, hxn⟩ := Hr.out x (List.mem_of_getElem? hxx)
      have hsucc := costF_succ (os := T.ops) hxx
      have hcx2 := Hc.out x (List.mem_of_getElem? hxx)
      obtain ⟨q, rfl⟩ : ∃ q : Nat, x = (q : Int) := ⟨x.toNat, by omega⟩
      have hqn : q < nO := by rw [← HlO.out]; omega
      obtain ⟨ob, oo, o, A1, n1, c1, A2, n2, c2, A3, n3, c3, hO, hoo, q0, q1, q2, q3, rr1, rr2, rr3, rr4⟩ := (H.out.keep Hbl.out).ops.op hqn
      simp only at hO
      subst hO
      have hop : opAt T.ops (q : Int) = o := by
        unfold opAt
        simp [hoo]
      rw [hop] at hsucc hcx2
      have hct2 := cost_take Hc.out (k + 1)
      rw [hsucc] at hct2
      have Hsucc := hide hsucc
      obtain ⟨cs, hcs⟩ : ∃ z, z = costF T.ops (l.take k) := ⟨_, rfl⟩
      rw [← hcs] at hct hct2 Ho_ Hsucc
      have hqi : (q : Int) < (nO : Int) := by omega
      have nob : ¬ ob = go := fun e => by
        have h1 := World.block_lt_of_cell? _ _ q3
        have h2 : ob < B0 := by
          have h3 := (H.out.ops.op hqn)
          obtain ⟨ob', oo', o', _, _, _, _, _, _, _, _, _, e', _, p0, _⟩ := h3
          simp only at e'
          injection e' with e'
          injection e' with e1 e2
          subst e1
          rw [HB0.out]
          exact World.block_lt_of_cell? _ _ p0
        omega
      have nob2 : ¬ go = ob := fun e => nob e.symm
      have of2 := Ho_.out.frozen 2
      clear hsucc hxx hoo hcs
      have t0 := Ht.out.cell 0
      have t1 := Ht.out.cell 1
      have t2 := Ht.out.cell 2
      have t3 := Ht.out.cell 3
      have tl := Ht.out.lt
      have o_0 := Ho_.out.cell 0
      have o_1 := Ho_.out.cell 1
      have o_2 := Ho_.out.cell 2
      have o_3 := Ho_.out.cell 3
      have o_l := Ho_.out.lt
      simp only [List.getElem?_cons_zero, List.getElem?_cons_succ] at t0 t1 t2 t3 o_0 o_1 o_2 o_3
      go_upto_region 7 with (fail)
      go_region
      all_goals (try skip)
      go_wp2_with fail
      go_roundw
      case rel =>
        have hbD : Below wr.heap.size wr wr.drew := (Below.refl _ _).drew
        have hch := (Chg.set (wr.drew) go 2 (.int .i64 (cs + o.cost)))
        have ho2 := (Ho_.out.keep hbD).set 2 (.int .i64 (cs + o.cost))
        simp only [List.set_cons_zero, List.set_cons_succ] at ho2
        have hsz := HB0.out
        exact ⟨k + 1, by omega, by go_num, below_setA (Hbl.out.drew) (by omega) _ _, hch.blk (Ht.out.keep hbD) (fun e => by have h1 : gT = go := e; omega), hch.blk (Hr_.out.keep hbD) (fun e => by have h1 : gT + 1 = go := e; omega), hch.blk (Hf.out.keep hbD) (fun e => by have h1 : gT + 1 + 1 = go := e; omega), by rw [Hsucc.out]; exact ho2⟩
      case measure => simp [intOf]; omega
end Go.Proofs.YtmjiiddncbhgpaaGreat
