/- What the law asks for, part 26: Bw. -/
import Derived.Test.YtmjiiddncbhgpaaGreatE1
import Derived.Test.YtmjiiddncbhgpaaGreatE3
import Derived.BigQuiet
import Derived.Deep.AppendLies
import Derived.Deep.Draws
import Derived.Deep.Fields
import Derived.Deep.LoopGhost
import Derived.Deep.QuietTactic
import Derived.Deep.Slices
import Derived.Laws.AppendOwnNone
import Derived.Laws.OwnMore
import Derived.Lib.Hide
import Derived.LoopIn
import Derived.LoopNIn
import Derived.Maps.AppendAt
import Derived.OwnWalkIn
import Derived.RangeFuncBound
import Derived.RangeFuncCalls
import Derived.RangeFuncLeaves
import Derived.RangeFuncNested
import Derived.Shelf.Abstract
import Derived.Shelf.RegionOpen
import Derived.TacticsInMore
import Derived.Test.YtmjiiddncbhgpaaGreatProg
import Derived.WalkKit
namespace Go.Proofs.YtmjiiddncbhgpaaGreat
set_option linter.unusedVariables false
set_option linter.unusedSimpArgs false
open Go.RowKit Go.Shelf
attribute [local go_sem] Oper.semAt_some
/-- a list's places and elements, from its end -/
def backL (l : List Int) : List (Nat × Int) := (l.zipIdx.map fun p => (p.2, p.1)).reverse
theorem backL_len (l : List Int) : (backL l).length = l.length := by simp [backL]
theorem backL_at {l : List Int} {j : Nat} {x : Int} (h : l[j]? = some x) : (backL l)[l.length - 1 - j]? = some (j, x) := by
  have hj := (List.getElem?_eq_some_iff.1 h).1
  unfold backL
  rw [List.getElem?_reverse (by simp; omega)]
  simp only [List.length_map, List.length_zipIdx]
  rw [show l.length - 1 - (l.length - 1 - j) = j by omega, List.getElem?_map, List.getElem?_zipIdx, h]
  simp
theorem backL_snd (l : List Int) : (backL l).map (·.2) = l.reverse := by
  unfold backL
  rw [List.map_reverse, List.map_map]
  congr 1
  exact List.zipIdx_map_fst 0 l
/-- a place and its element -/
abbrev Bk (xs : List Int) := { x : Nat × Int // x ∈ backL xs }
def bkV (x : Nat × Int) : Array Value := #[.int .i64 x.1, .int .i64 x.2]
def encBk {xs : List Int} (x : Bk xs) : Array Value := bkV x.1
/-- what a round keeps: the box of the slice, and the slice's block -/
def KpB (Bs : Nat) (A : Option Addr) (m : Nat) (W W' : World) : Prop := W'.heap[Bs]? = W.heap[Bs]? ∧ (0 < m → ∀ r, blkA A = some r → W'.heap[r]? = W.heap[r]?)
theorem kpB_t {Bs m : Nat} {O : Option Addr} {A B C : World} (h : KpB Bs O m A B) (k : KpB Bs O m B C) : KpB Bs O m A C := ⟨k.1.trans h.1, fun hm r hr => (k.2 hm r hr).trans (h.2 hm r hr)⟩
theorem kpB_b {Bs m : Nat} {O : Option Addr} {w : World} (hB : Bs < w.heap.size) (hO : 0 < m → ∀ r, blkA O = some r → r < w.heap.size) (W : World) (l : Nat) (o o' : Obj) (hl : w.heap.size ≤ l) (h : W.heap[l]? = some o) (hc : o.isCells = false) (hw : o.isWalk = false) : KpB Bs O m W (W.putObj l o') :=
  ⟨World.putObj_heap_other (by omega), fun hm r hr => World.putObj_heap_other (by have := hO hm r hr; omega)⟩
theorem Rd.kpB {W W' : World} {Bs : Nat} {A : Option Addr} {n c : Nat} {xs : List Int} (h : Rd Enc.int W A n c xs) (hk : KpB Bs A n W W') : Rd Enc.int W' A n c xs :=
  h.block (fun _ _ h => h) (fun b off e hn => hk.2 hn b (by rw [e]; rfl))
set_option maxRecDepth 100000 in
set_option maxHeartbeats 4000000 in
theorem back1_in (F : Fence) (n : Nat) (hf : F.fn 153) (hro : F.round = none) (hn : 1 ≤ n) (l Bs : Nat) (A : Option Addr) (na c : Nat) (xs : List Int) (W : World) (h : Rd Enc.int W A na c xs) (J Jx : List (Bk xs) → World → Prop)
    (hY : ∀ pre (x : Bk xs) W, J pre W → pre.length < xs.length → YieldAt F (n - 1) Tryz.prog l (encBk x) W fun e W' =>
      (e = .returned (.bool true) ∧ J (pre ++ [x]) W' ∧ KpB Bs A na W W') ∨ (e = .returned (.bool false) ∧ Jx (pre ++ [x]) W'))
    (hBs : W.cell? ⟨Bs, 0, none⟩ = some (.slice A na c)) (h0 : J [] W) :
    CallsIn F n Tryz.prog 153 #[.func (.yield l) #[] #[], .pointer (some ⟨Bs, 0, none⟩)] W fun e W' => (∃ v, e = .returned v) ∧
      ((∃ ys : List (Bk xs), ys.map (·.1) = backL xs ∧ J ys W') ∨ (∃ pre : List (Bk xs), pre.map (·.1) <+: backL xs ∧ Jx pre W')) := by
  have hlen := h.len
  have hna := h.low
  have H := hide h
  have HY := hide hY
  have Hlen := hide hlen
  clear h hY hlen
  refine callsIn_of_wp Tryz.func153 rfl hf ?_ hro
  simp only [Tryz.ntmps153, List.size_toArray, List.length_cons, List.length_nil, Nat.reduceAdd, Nat.reduceSub, Array.replicate_succ, Array.replicate_zero, List.push_toArray, List.append_toArray, List.nil_append, List.cons_append]
  gi_wp2
  gi_loopw [3] (fun i wr => ∃ (k : Nat) (pre : List (Bk xs)), k ≤ na ∧ i = .int .i64 ((k : Int) - 1) ∧ pre.map (·.1) = (backL xs).take (na - k) ∧ J pre wr ∧ KpB Bs A na W wr) (fun i _ => (intOf i + 1).toNat)
  case atStart => exact ⟨na, [], Nat.le_refl _, rfl, by simp, h0, rfl, fun _ _ _ => rfl⟩
  case round =>
    obtain ⟨k, pre, hk, rfl, hpre, hJs, hK⟩ := hrel
    have Hpre := hide hpre
    have HJs := hide hJs
    have HK := hide hK
    have hBs1 : wr.cell? ⟨Bs, 0, none⟩ = some (.slice A na c) := by
      rw [← hBs]
      unfold World.cell?
      rw [hK.1]
    clear hpre hJs hK
    cases k with
    | zero =>
      gi_wp2
      go_end0
      refine ⟨⟨_, rfl⟩, .inl ⟨pre, ?_, HJs.out⟩⟩
      rw [Hpre.out, List.take_of_length_le (by rw [backL_len, Hlen.out]; omega)]
    | succ j =>
      rw [show ((j + 1 : Nat) : Int) - 1 = (j : Int) from by omega]
      have hj : j < na := by omega
      obtain ⟨b, off, x, rfl, hx, hx1, hx2, hcx⟩ := (H.out.kpB HK.out).int hj
      have hat := backL_at hx
      rw [Hlen.out] at hat
      have Htk := hide (List.take_add_one (l := backL xs) (i := na - 1 - j))
      have hmem : (j, x) ∈ backL xs := List.mem_of_getElem? hat
      have hl : pre.length < xs.length := by
        have h1 := congrArg List.length Hpre.out
        rw [List.length_map, List.length_take, backL_len, Hlen.out] at h1
        rw [Hlen.out]
        omega
      have hpre2 : (pre ++ [(⟨(j, x), hmem⟩ : Bk xs)]).map (·.1) = (backL xs).take (na - j) := by
        rw [List.map_append, Hpre.out, show na - j = na - 1 - j + 1 by omega, Htk.out, hat, show na - (j + 1) = na - 1 - j by omega]
        rfl
      obtain ⟨fn, tmps, assign, body, hy, hR⟩ := HY.out pre ⟨(j, x), hmem⟩ _ HJs.out hl
      have HR := hide hR
      have Hp2 := hide hpre2
      simp only [encBk, bkV] at hy
      clear hR hl hat hpre2 Htk hx
      gi_wp2
      refine HR.out.mono ?_
      rintro e W3 (⟨rfl, hJ3, hk3⟩ | ⟨rfl, hJx3⟩)
      · have HJ3 := hide hJ3
        have Hk3 := hide (kpB_t HK.out hk3)
        clear hJ3 hk3
        gi_wp2
        go_roundw
        case rel => exact ⟨j, _, by omega, by go_num, Hp2.out, HJ3.out, Hk3.out⟩
        case measure => simp [intOf]
      · have HJ3 := hide hJx3
        clear hJx3
        gi_wp2
        refine bodyPost_ret (results_none rfl _ _ _) rfl ?_
        refine ⟨⟨_, rfl⟩, .inr ⟨_, ?_, HJ3.out⟩⟩
        rw [Hp2.out]
        exact List.take_prefix _ _
/-- the list from its end, all of it, or the first part -/
theorem back_stops (F : Fence) (n : Nat) (hf : F.fn 153) (hro : F.round = none) (hn : 1 ≤ n) (Bs : Nat) (A : Option Addr) (na c : Nat) (xs : List Int) (w : World) (h : Rd Enc.int w A na c xs) (hBs : w.cell? ⟨Bs, 0, none⟩ = some (.slice A na c)) :
    SeqStopsK F n Tryz.prog 153 #[.pointer (some ⟨Bs, 0, none⟩)] (encBk (xs := xs)) (KpB Bs A na) (fun ys => ys.map (·.1) = backL xs) (fun pre => pre.map (·.1) <+: backL xs) xs.length w := fun l J Jx W hW hJ _ hY h0 =>
  back1_in F n hf hro hn l Bs A na c xs W (h.keep hW) J Jx hY ((hW.cell (p := ⟨Bs, 0, none⟩) (World.block_lt_of_cell? w _ hBs)).trans hBs) h0
/-- the maker: a box of the slice -/
theorem Backward_ct (A : Option Addr) (na c : Nat) (w : World) :
    Calls Tryz.prog 125 #[.slice A na c] w fun e w' => e = .returned (.func (.func 153) #[] #[.pointer (some ⟨w.heap.size, 0, none⟩)]) ∧ w' = w.alloc (.cells #[.slice A na c] 22) := by
  go_enter Tryz.func125, Tryz.ntmps125
  go_wp2
  go_ret
  exact ⟨rfl, rfl⟩
end Go.Proofs.YtmjiiddncbhgpaaGreat
