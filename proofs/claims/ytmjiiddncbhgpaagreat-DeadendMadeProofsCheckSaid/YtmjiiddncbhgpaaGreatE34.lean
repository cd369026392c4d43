/- What the law asks for, part 34: De1. -/
import Derived.Test.YtmjiiddncbhgpaaGreatE1
import Derived.Test.YtmjiiddncbhgpaaGreatE2
import Derived.Test.YtmjiiddncbhgpaaGreatE3
import Derived.Test.YtmjiiddncbhgpaaGreatE4
import Derived.Test.YtmjiiddncbhgpaaGreatE5
import Derived.Test.YtmjiiddncbhgpaaGreatE6
import Derived.Test.YtmjiiddncbhgpaaGreatE7
import Derived.Test.YtmjiiddncbhgpaaGreatE8
import Derived.Test.YtmjiiddncbhgpaaGreatE26
import Derived.Test.YtmjiiddncbhgpaaGreatE27
import Derived.Test.YtmjiiddncbhgpaaGreatE28
import Derived.Test.YtmjiiddncbhgpaaGreatE29
import Derived.Test.YtmjiiddncbhgpaaGreatE31
import Derived.BigQuiet
import Derived.Deep.AppendLies
import Derived.Deep.DeepCutAuto
import Derived.Deep.Draws
import Derived.Deep.Fields
import Derived.Deep.LoopGhost
import Derived.Deep.QuietTactic
import Derived.Deep.RegionHeld3
import Derived.Deep.RegionLaw
import Derived.Deep.Slices
import Derived.DeepKeys4
import Derived.Laws.AppendOwnNone
import Derived.Laws.BitsAllLaws
import Derived.Laws.OwnMore
import Derived.Lib.Hide
import Derived.Lib.SlicesCompact
import Derived.LoopIn
import Derived.LoopNIn
import Derived.Maps.AppendAt
import Derived.Maps.OwnIn
import Derived.Maps.OwnOps
import Derived.Maps.OwnSet
import Derived.OrdersHeld
import Derived.OrdersIn
import Derived.OwnWalkIn
import Derived.ProofKit
import Derived.RangeFuncBound
import Derived.RangeFuncCalls
import Derived.RangeFuncLeaves
import Derived.RangeFuncNested
import Derived.Shelf.Abstract
import Derived.Shelf.RegionOpen
import Derived.StillTail
import Derived.StillTailTactics
import Derived.TacticsInMore
import Derived.Test.YtmjiiddncbhgpaaGreatProg
import Derived.WalkKit
import Init
namespace Go.Proofs.YtmjiiddncbhgpaaGreat
set_option linter.unusedVariables false
set_option linter.unusedSimpArgs false
open Go.RowKit Go.Shelf Go.Maps
attribute [local go_sem] Oper.semAt_some
/-- And, by what it costs -/
theorem And_d {L B g bf bp : Nat} {w : World} {ns : List BN} {C a b : Nat} (h : St L B g bf bp w ns C) (ha : a < ns.length + 2) (hb : b < ns.length + 2) (hC : C + cst L ns L a b ≤ 5800000000000) :
    Calls Tryz.prog 37 #[.pointer (some ⟨g, 0, none⟩), .int .i64 a, .int .i64 b] w (StP L B g bf bp w ns (C + cst L ns L a b) fun ns' k => ∀ s, sem ns' k s = (sem ns a s && sem ns b s)) := by
  have hc := both_ct (op := 0) (.inl rfl) L w ns C a b h ha hb (Nat.sub_le _ _) hC
  have Hc := hide hc
  generalize cst L ns L a b = cc at *
  clear hc
  go_enter Tryz.func37, Tryz.ntmps37
  go_wp2_with fail
  refine Hc.out.mono ?_
  rintro e w' ⟨ms, k, rfl, h2, h3, h4, h5⟩
  have H := hide (And.intro h2 (And.intro h3 (And.intro h4 h5)))
  clear h2 h3 h4 h5 h
  go_wp2
  go_ret
  exact ⟨ms, k, rfl, H.out.1, H.out.2.1, H.out.2.2.1, fun s => by rw [H.out.2.2.2 s]; rfl⟩
/-- And of two cubes -/
theorem And_cube {L B g bf bp : Nat} {w : World} {ns : List BN} {C a b : Nat} (h : St L B g bf bp w ns C) (ha : a < ns.length + 2) (hb : b < ns.length + 2) (ca : CubeS (sem ns a)) (cb : CubeS (sem ns b)) (hC : C + 48 ≤ 5800000000000) :
    Calls Tryz.prog 37 #[.pointer (some ⟨g, 0, none⟩), .int .i64 a, .int .i64 b] w (StP L B g bf bp w ns (C + 48) fun ns' k => ∀ s, sem ns' k s = (sem ns a s && sem ns b s)) := by
  have h1 := cst_cubes h.ok L a b ha hb ca cb
  have h2 := h.low
  exact (And_d h ha hb (by omega)).mono fun e w' hp => hp.mono (by omega) fun _ _ h => h
/-- what holds while a set's diagram is made: the diagram of the literals so far -/
structure CuJ (L B g bf bp : Nat) (w : World) (ns : List BN) (C : Nat) (f : (Nat → Bool) → Bool) (Bp Bc Bk rb : Nat) (A A' : Option Addr) (m c m' c' : Nat) (W : World) : Prop where
  at_ : ∃ ms k, St L B g bf bp W (ns ++ ms) C ∧ k < (ns ++ ms).length + 2 ∧ (∀ s, sem (ns ++ ms) k s = f s) ∧ Blk 3 W Bk [.int .i64 (k : Nat)]
  kept : Kept B g bf bp w W
  bp_ : Blk 71 W Bp [.pointer (some ⟨rb, 0, none⟩)]
  bc : Blk 70 W Bc [.slice A m c, .slice A' m' c']
theorem Kept.turn {B g bf bp BL : Nat} {w X Y : World} {row : Option Nat} (h : Kept B g bf bp w X) (hg : X.grownBy Y row) (hr : ∀ r, row = some r → BL ≤ r) (hB : w.heap.size ≤ BL) (hgl : g < w.heap.size) : Kept B g bf bp w Y :=
  ⟨hg.os.trans h.os, hg.tape.trans h.tape, hg.output.trans h.output, Nat.le_trans h.size hg.size, fun r e => h.row r (by
    rw [← e]
    refine (rowOf_same (hg.block g (Nat.lt_of_lt_of_le hgl h.size) (fun e => ?_))).symm
    have := hr g e.symm
    omega), fun i hi hn => (hg.block i (Nat.lt_of_lt_of_le hi h.size) (fun e => by have := hr i e.symm; omega)).trans (h.block i hi hn)⟩
theorem CuJ.turn {L B g bf bp BL : Nat} {w X Y : World} {ns : List BN} {C : Nat} {f : (Nat → Bool) → Bool} {Bp Bc Bk rb : Nat} {A A' : Option Addr} {m c m' c' : Nat} {row : Option Nat} (h : CuJ L B g bf bp w ns C f Bp Bc Bk rb A A' m c m' c' X)
    (hg : X.grownBy Y row) (hr : ∀ r, row = some r → BL ≤ r ∧ ∃ o : Obj, X.heap[r]? = some o ∧ o.isCells = false) (hB : w.heap.size ≤ BL) (hgl : g < w.heap.size) (h1 : bf < BL) (h2 : bp < BL) : CuJ L B g bf bp w ns C f Bp Bc Bk rb A A' m c m' c' Y := by
  obtain ⟨ms, k, q1, q2, q3, q4⟩ := h.at_
  exact ⟨⟨ms, k, q1.turn hg hr h1 h2, q2, q3, q4.grown hg (turn_ne hr q4.cells)⟩, h.kept.turn hg (fun r e => (hr r e).1) hB hgl, h.bp_.grown hg (turn_ne hr h.bp_.cells), h.bc.grown hg (turn_ne hr h.bc.cells)⟩
theorem St.maps {L B g bf bp : Nat} {w : World} {ns : List BN} {C : Nat} (h : St L B g bf bp w ns C) : bf < w.heap.size ∧ bp < w.heap.size := by
  obtain ⟨_, _, np, M, _, q4, _⟩ := h
  exact ⟨q4.found.lt, q4.pairs.lt⟩
theorem mem_back {xs : List Int} (x : Bk xs) : x.1.2 ∈ xs := by
  have h : x.1.2 ∈ (backL xs).map (·.2) := List.mem_map_of_mem x.2
  rw [backL_snd] at h
  exact List.mem_reverse.1 h
theorem all_back {xs : List Int} {ys : List (Bk xs)} (h : ys.map (·.1) = backL xs) (q : Int → Bool) : ys.all (fun p => q p.1.2) = xs.all q := by
  have h2 : ys.map (fun p => p.1.2) = xs.reverse := by
    have e := congrArg (List.map (·.2)) h
    rw [backL_snd, List.map_map] at e
    exact e
  have h3 : ys.all (fun p => q p.1.2) = (ys.map (fun p => p.1.2)).all q := by
    rw [List.all_map]
    rfl
  rw [h3, h2, List.all_reverse]
theorem cubeS_all {α : Type} (l : List α) (v : α → Nat) (pos : Bool) {f : (Nat → Bool) → Bool} (hf : CubeS f) : CubeS (fun s => f s && l.all (fun p => s (v p) == pos)) := by
  induction l with
  | nil => exact hf.congr (fun s => by simp)
  | cons a l ih => exact (ih.and (CubeS.lit (v a) pos)).congr (fun s => by simp only [List.all_cons]; cases f s <;> cases (s (v a) == pos) <;> simp)
theorem CuJ.keep {L B g bf bp : Nat} {w X Y : World} {ns : List BN} {C : Nat} {f : (Nat → Bool) → Bool} {Bp Bc Bk rb : Nat} {A A' : Option Addr} {m c m' c' : Nat} (h : CuJ L B g bf bp w ns C f Bp Bc Bk rb A A' m c m' c' X)
    (hb : Below X.heap.size X Y) (hgl : g < w.heap.size) : CuJ L B g bf bp w ns C f Bp Bc Bk rb A A' m c m' c' Y := by
  obtain ⟨ms, k, q1, q2, q3, q4⟩ := h.at_
  exact ⟨⟨ms, k, q1.keep hb, q2, q3, q4.keep hb⟩, h.kept.trans (Kept.of_below hb (Nat.lt_of_lt_of_le hgl h.kept.size)), h.bp_.keep hb, h.bc.keep hb⟩
theorem CuJ.less {L B g bf bp : Nat} {w X : World} {ns : List BN} {C C' : Nat} {f f' : (Nat → Bool) → Bool} {Bp Bc Bk rb : Nat} {A A' : Option Addr} {m c m' c' : Nat} (h : CuJ L B g bf bp w ns C f Bp Bc Bk rb A A' m c m' c' X) (hC : C ≤ C') (hf : ∀ s, f s = f' s) :
    CuJ L B g bf bp w ns C' f' Bp Bc Bk rb A A' m c m' c' X := by
  obtain ⟨ms, k, q1, q2, q3, q4⟩ := h.at_
  exact ⟨⟨ms, k, q1.mono hC, q2, fun s => by rw [q3, hf], q4⟩, h.kept, h.bp_, h.bc⟩
theorem own_slice {L g bf bp : Nat} {W : World} {A : Option Addr} {n c : Nat} (hb : Blk 140 W g [.int .i64 L, .slice A n c, .map (some bf), .map (some bp)]) : rowOf W g = (Value.slice A n c).ownBlock := by
  have hc1 := hb.cell 1
  simp only [List.getElem?_cons_zero, List.getElem?_cons_succ] at hc1
  rw [rowOf, hc1]
  rfl
/-- a store, while blocks turn that are none of its own -/
theorem St.chg {L B g bf bp : Nat} {X Y : World} {ns : List BN} {C : Nat} {M : Nat → Prop} (h : St L B g bf bp X ns C) (hc : Chg M X Y) (hM : ∀ i, M i → i ≠ g ∧ i ≠ bf ∧ i ≠ bp ∧ rowOf X g ≠ some i) : St L B g bf bp Y ns C := by
  obtain ⟨q1, q2, np, N, q3, q4, q5⟩ := h
  refine ⟨q1, q2, np, N, q3, ?_, q5⟩
  obtain ⟨A, c, hb, ho⟩ := q4.blk
  have hrow := own_slice hb
  exact ⟨q4.low, q4.few, ⟨A, c, hc.blk hb (fun e => (hM _ e).1 rfl), hc.own ho (fun r e he => (hM r he).2.2.2 (by rw [hrow, e]))⟩,
    q4.found.of_block (hc.block bf q4.found.lt (fun e => (hM _ e).2.1 rfl)), q4.pairs.of_block (hc.block bp q4.pairs.lt (fun e => (hM _ e).2.2.1 rfl)),
    q4.base.1, q4.base.2.1, q4.base.2.2.1, q4.base.2.2.2.1, Nat.le_trans q4.base.2.2.2.2 hc.size⟩
theorem Kept.chg {B g bf bp : Nat} {w X Y : World} {M : Nat → Prop} (h : Kept B g bf bp w X) (hc : Chg M X Y) (hM : ∀ i, M i → w.heap.size ≤ i) (hgl : g < w.heap.size) : Kept B g bf bp w Y :=
  ⟨hc.os.trans h.os, hc.tape.trans h.tape, hc.output.trans h.output, Nat.le_trans h.size hc.size, fun r e => h.row r (by
    rw [← e]
    exact (rowOf_same (hc.block g (Nat.lt_of_lt_of_le hgl h.size) (fun e => by have := hM g e; omega))).symm), fun i hi hn => (hc.block i (Nat.lt_of_lt_of_le hi h.size) (fun e => by have := hM i e; omega)).trans (h.block i hi hn)⟩
/-- a round: the store's methods, then the new number in its box -/
theorem CuJ.step {L B g bf bp BL : Nat} {w W w2 : World} {ns ms ms' : List BN} {C C0 C' k' : Nat} {f f' : (Nat → Bool) → Bool} {Bp Bc Bk rb : Nat} {A A' : Option Addr} {m c m' c' : Nat} {cs : List Value} (hj : CuJ L B g bf bp w ns C f Bp Bc Bk rb A A' m c m' c' W)
    (hst : St L B g bf bp W (ns ++ ms) C0) (hbk : Blk 3 W Bk cs) (hK : Kept B g bf bp W w2) (h2 : St L B g bf bp w2 (ns ++ ms') C') (hk : k' < (ns ++ ms').length + 2) (hq : ∀ s, sem (ns ++ ms') k' s = f' s)
    (hgl : g < w.heap.size) (hwk : w.heap.size ≤ Bk) (n1 : Bp ≠ Bk) (n2 : Bc ≠ Bk) (n3 : Bp ≠ g) (n4 : Bc ≠ g) (h1 : bf < BL) (h3 : bp < BL) (hcs : ∀ v, (cs.set 0 v) = [v]) :
    CuJ L B g bf bp w ns C' f' Bp Bc Bk rb A A' m c m' c' (w2.setCell ⟨Bk, 0, none⟩ (.int .i64 (k' : Nat))) ∧ KeepsFrom BL W (w2.setCell ⟨Bk, 0, none⟩ (.int .i64 (k' : Nat))) ∧
      ∀ b, b < W.heap.size → (b < B ∨ Free W g bf bp b) → b ≠ Bk → (w2.setCell ⟨Bk, 0, none⟩ (.int .i64 (k' : Nat))).heap[b]? = W.heap[b]? := by
  have fk := hst.free hbk (show Bk ≠ g by omega) (by decide)
  have hk2 := hK.blk hbk fk
  have hc := Chg.set w2 Bk 0 (.int .i64 (k' : Nat))
  have fk2 := hK.free fk
  refine ⟨⟨⟨ms', k', h2.chg hc (fun i e => by subst e; exact fk2.2), hk, hq, ?_⟩, (hj.kept.trans hK).chg hc (fun i e => by omega) hgl,
    hc.blk (hK.blk hj.bp_ (hst.free hj.bp_ n3 (by decide))) n1, hc.blk (hK.blk hj.bc (hst.free hj.bc n4 (by decide))) n2⟩, ?_, fun b hb hf hne => ?_⟩
  · have := hk2.set 0 (.int .i64 (k' : Nat))
    rw [hcs] at this
    exact this
  · have hf := hK.from_ hst h1 h3
    refine ⟨Nat.le_trans hf.size hc.size, fun i o hi ho hcc => ?_⟩
    have h4 := hf.same i o hi ho hcc
    refine (hc.block i (Array.getElem?_eq_some_iff.1 h4).1 (fun e => ?_)).trans h4
    subst e
    rw [show w2.heap[i]? = _ from hk2] at h4
    cases h4
    cases hcc
  · refine (hc.block b (Nat.lt_of_lt_of_le hb hK.size) hne).trans (hK.block b hb (hf.imp id (fun h => h.2)))
theorem snoc_all {α : Type} (l : List α) (a : α) (q : α → Bool) : (l ++ [a]).all q = (l.all q && q a) := by simp
set_option maxRecDepth 100000 in
set_option maxHeartbeats 3000000 in
theorem cube_ct {L B g bf bp rb all : Nat} {w : World} {ns : List BN} {C : Nat} {A A' : Option Addr} {m c m' c' : Nat} {x : SS} (h : St L B g bf bp w ns C)
    (hreg : Blk 76 w rb [.pointer (some ⟨g, 0, none⟩), .int .i64 all]) (hrg : rb ≠ g) (hA : Rd Enc.int w A m c x.need) (hB : Rd Enc.int w A' m' c' x.no) (fA : FreeA w B g bf bp A m) (fB : FreeA w B g bf bp A' m')
    (hx : ∀ p ∈ x.need, 0 ≤ p ∧ p < (L : Int)) (hx' : ∀ p ∈ x.no, 0 ≤ p ∧ p < (L : Int)) (hm : m ≤ 24) (hm' : m' ≤ 24) (hC : C + 2400 ≤ 5800000000000) :
    Calls Tryz.prog 84 #[.pointer (some ⟨rb, 0, none⟩), .agg #[.slice A m c, .slice A' m' c']] w (StP L B g bf bp w ns (C + 2400) fun ns' k => ∀ s, sem ns' k s = inS x s) := by
  have H := hide h
  have Hreg := hide hreg
  have HA := hide hA
  have HB := hide hB
  have FA := hide fA
  have FB := hide fB
  have Hx := hide hx
  have Hx' := hide hx'
  have hgl := h.lt
  have hrl := hreg.lt
  have hmp := h.maps
  have Hfr := hide (h.free hreg hrg (by decide))
  clear h hreg hA hB fA fB hx hx'
  refine (callsIn_wide (n := 8)).1 (callsIn_of_wp_marks Tryz.func84 rfl trivial (wpIn_wide.2 ?_) rfl)
  simp only [Tryz.ntmps84, List.size_toArray, List.length_cons, List.length_nil, Nat.reduceAdd, Nat.reduceSub, Array.replicate_succ, Array.replicate_zero, List.push_toArray, List.append_toArray, List.nil_append, List.cons_append]
  go_upto_region 2 with (fail)
  have hP := Blk.new w 71 [.pointer (some ⟨rb, 0, none⟩)]
  have hSS := Blk.new (w.alloc (.cells #[.pointer (some ⟨rb, 0, none⟩)] 71)) 70 [.slice A m c, .slice A' m' c']
  have hK := Blk.new ((w.alloc (.cells #[.pointer (some ⟨rb, 0, none⟩)] 71)).alloc (.cells #[.slice A m c, .slice A' m' c'] 70)) 3 [.int .i64 1]
  have hb2 := below_two w (.cells #[.pointer (some ⟨rb, 0, none⟩)] 71) (.cells #[.slice A m c, .slice A' m' c'] 70)
  simp only [World.size_alloc] at hSS hK
  obtain ⟨w2, hw2⟩ : ∃ W, W = (w.alloc (.cells #[.pointer (some ⟨rb, 0, none⟩)] 71)).alloc (.cells #[.slice A m c, .slice A' m' c'] 70) := ⟨_, rfl⟩
  have hP2 : Blk 71 w2 w.heap.size [.pointer (some ⟨rb, 0, none⟩)] := by rw [hw2]; exact hP.alloc _
  have hS2 : Blk 70 w2 (w.heap.size + 1) [.slice A m c, .slice A' m' c'] := by rw [hw2]; exact hSS
  have hz2 : w2.heap.size = w.heap.size + 1 + 1 := by rw [hw2]; simp only [World.size_alloc]
  rw [← hw2] at hK hb2 ⊢
  have hb3 := (Below.refl w2.heap.size w2).alloc (Nat.le_refl _) (.cells #[.int .i64 1] 3)
  have hz3 : (w2.alloc (.cells #[.int .i64 1] 3)).heap.size = w.heap.size + 1 + 1 + 1 := by rw [World.size_alloc, hz2]
  obtain ⟨w3, hw3⟩ : ∃ W, W = w2.alloc (.cells #[.int .i64 1] 3) := ⟨_, rfl⟩
  rw [← hw3] at hK hb3 hz3 ⊢
  have hP3 := hP2.keep hb3
  have hS3 := hS2.keep hb3
  have hlow := hb2.trans (hb3.mono (by omega))
  have hJ0 : CuJ L B g bf bp w ns (C + 49 * 0) (fun s => ([] : List (Bk x.need)).all (fun p => s p.1.2.toNat)) w.heap.size (w.heap.size + 1) (w.heap.size + 1 + 1) rb A A' m c m' c' w3 :=
    ⟨⟨[], 1, by rw [List.append_nil]; exact (H.out.keep hlow).mono (by omega), by rw [List.append_nil]; omega, fun s => by rw [List.append_nil, sem_one]; rfl, hK⟩, Kept.of_below hlow hgl, hP3, hS3⟩
  have HJ0 := hide hJ0
  have cS3 := hS3.cell 0
  simp only [List.getElem?_cons_zero] at cS3
  have lP3 := hP3.lt
  clear hw2 hw3 hP hSS hP2 hS2 hb2 hb3 hK hP3 hJ0
  go_wp2_with (go_at_call 125; refine (Backward_ct A m c _).mono ?_; rintro e w' ⟨rfl, rfl⟩)
  have cBs := Blk.new w3 22 [.slice A m c]
  have hbL := (Below.refl w3.heap.size w3).alloc (Nat.le_refl _) (.cells #[.slice A m c] 22)
  have hzL : (w3.alloc (.cells #[.slice A m c] 22)).heap.size = w3.heap.size + 1 := by rw [World.size_alloc]
  rw [hz3] at cBs hzL
  obtain ⟨WL, hWL⟩ : ∃ W, W = w3.alloc (.cells #[.slice A m c] 22) := ⟨_, rfl⟩
  rw [← hWL] at cBs hbL hzL ⊢
  clear hWL
  have hJL := HJ0.out.keep hbL hgl
  have hcBs := cBs.cell 0
  simp only [List.getElem?_cons_zero] at hcBs
  have hrdL := FA.out.rd hJL.kept HA.out
  have hAl : 0 < m → ∀ r, blkA A = some r → r < WL.heap.size := fun h0 r hr => Nat.lt_of_lt_of_le (FA.out h0 r hr).1 hJL.kept.size
  have HJL := hide hJL
  have HcBs := hide cBs
  have hBsl := cBs.lt
  clear hJL cBs hbL
  refine (wpIn_wide (n := 8)).1 (wpIn_rangeFunc_ownH (w := WL) rfl (by omega) (gf := 153) (lb := #[.pointer (some ⟨w.heap.size + 1 + 1 + 1, 0, none⟩)]) rfl trivial (enters_of Tryz.func153 (by kernel_rfl) rfl)
    (back_stops Fence.wide 7 trivial rfl (by omega) (w.heap.size + 1 + 1 + 1) A m c x.need WL hrdL hcBs) kpB_t (kpB_b hBsl hAl) (Below.refl _ _) (fun _ => rfl)
    (fun pre W => CuJ L B g bf bp w ns (C + 49 * pre.length) (fun s => pre.all (fun p => s p.1.2.toNat)) w.heap.size (w.heap.size + 1) (w.heap.size + 1 + 1) rb A A' m c m' c' W ∧ Blk 22 W (w.heap.size + 1 + 1 + 1) [.slice A m c]) (fun _ _ _ => False) ?own1 (fun _ _ _ _ _ hs _ _ => hs) ?start1
    (fun y a' _ => a' = { tmps := #[.pointer (some ⟨rb, 0, none⟩), .agg #[.slice A m c, .slice A' m' c'], .pointer (some ⟨w.heap.size, 0, none⟩), .pointer (some ⟨w.heap.size + 1, 0, none⟩), .int .i64 0, .pointer (some ⟨w.heap.size + 1 + 1, 0, none⟩), undef, .int .i64 y.1.2, undef, undef, .pointer (some ⟨w.heap.size + 1, 0, none⟩), .slice A m c, .func (.func 153) #[] #[.pointer (some ⟨w.heap.size + 1 + 1 + 1, 0, none⟩)], .int .i64 y.1.1, .int .i64 y.1.2, undef, undef, undef, undef, undef, undef, undef, undef, undef, undef, undef, undef, undef, undef, undef, undef, undef, undef, undef, undef, undef, undef, undef, undef, undef, undef, undef, undef, undef, undef], defers := [] }) (fun _ _ _ _ _ _ hs _ _ => hs) ?assign1 ?body1 ?done1 ?stop1)
  case own1 =>
    rintro pre X Y row ⟨h1, h2⟩ hg hr
    exact ⟨h1.turn hg hr (by omega) hgl (by omega) (by omega), h2.grown hg (turn_ne hr h2.cells)⟩
  case start1 => exact ⟨HJL.out, HcBs.out⟩
  case assign1 =>
    intro l0 pre y W K hi hK
    have HK := hide hK
    have Hi := hide hi
    clear hK hi
    unfold encBk bkV
    dsimp only
    gi_wp2
    exact HK.out _ _ ⟨Nat.le_refl _, fun _ _ _ h _ => h⟩ ⟨rfl, fun _ _ _ => rfl⟩ Hi.out rfl
  case body1 =>
    rintro l0 pre y a' W hl ⟨r, hr⟩ ⟨hj, hbs⟩ rfl hlt
    obtain ⟨ms, k, hst, hkl, hq, hbk⟩ := hj.at_
    have hkp := hj.kept
    obtain ⟨v, hv⟩ : ∃ v : Nat, y.1.2 = (v : Int) := ⟨y.1.2.toNat, by have := (Hx.out _ (mem_back y)).1; omega⟩
    have hvL : v < L := by have := (Hx.out _ (mem_back y)).2; omega
    have hxl : pre.length < 24 := by
      have := HA.out.len
      omega
    have hreg := hkp.blk Hreg.out Hfr.out
    have cP := hj.bp_.cell 0
    have cR := hreg.cell 0
    have cK := hbk.cell 0
    have fK := hbk.frozen 0
    have lK := hbk.lt
    simp only [List.getElem?_cons_zero] at cP cR cK
    have Hj := hide hj
    have Hst := hide hst
    have Hq := hide hq
    have Hbk := hide hbk
    have Hkp := hide hkp
    have Hbs := hide hbs
    have Hrg := hide hreg
    clear hj hst hq hbk hkp hbs hreg
    rw [hv]
    gi_wp2
    refine wpIn_region_round (S := (fun w' => w'.cell? ⟨w.heap.size, 0, none⟩ = some (.pointer (some ⟨rb, 0, none⟩)) ∧ w'.cell? ⟨rb, 0, none⟩ = some (.pointer (some ⟨g, 0, none⟩)))) (by kernel_rfl) ?_ (by kernel_rfl) ?_ (fun hHeld => ?_)
    · rintro ⟨_, _, h⟩; exact h
    · exact ⟨cP, cR⟩
    refine takeR (i := 0) (v := ?_) (some 15) rfl rfl (by kernel_rfl) (by kernel_rfl) (by kernel_rfl) (fun _ _ _ h => h) (Or.inl ⟨by rfl, ?_⟩) (by assumption) ?_
    rotate_left
    · intro w hSw; (try dsimp only at hSw); obtain ⟨s1, s2⟩ := hSw; first | (go_simp; done) | (go_simp; with_reducible rfl)
    try simp only [Act.put, List.setIfInBounds_toArray, List.set_cons_zero, List.set_cons_succ]
    refine takeR (i := 1) (v := ?_) (some 16) rfl rfl (by kernel_rfl) (by kernel_rfl) (by kernel_rfl) (fun _ _ _ h => h) (Or.inl ⟨by rfl, ?_⟩) (by assumption) ?_
    rotate_left
    · intro w hSw; (try dsimp only at hSw); obtain ⟨s1, s2⟩ := hSw; first | (go_simp; done) | (go_simp; with_reducible rfl)
    try simp only [Act.put, List.setIfInBounds_toArray, List.set_cons_zero, List.set_cons_succ]
    refine takeR (i := 2) (v := ?_) (some 17) rfl rfl (by kernel_rfl) (by kernel_rfl) (by kernel_rfl) (fun _ _ _ h => h) (Or.inl ⟨by rfl, ?_⟩) (by assumption) ?_
    rotate_left
    · intro w hSw; (try dsimp only at hSw); obtain ⟨s1, s2⟩ := hSw; first | (go_simp; done) | (go_simp; with_reducible rfl)
    try simp only [Act.put, List.setIfInBounds_toArray, List.set_cons_zero, List.set_cons_succ]
    refine takeR (i := 3) (v := ?_) (some 18) rfl rfl (by kernel_rfl) (by kernel_rfl) (by kernel_rfl) (fun _ _ _ h => h) (Or.inl ⟨by rfl, ?_⟩) (by assumption) ?_
    rotate_left
    · intro w hSw; (try dsimp only at hSw); obtain ⟨s1, s2⟩ := hSw; first | (go_simp; done) | (go_simp; with_reducible rfl)
    try simp only [Act.put, List.setIfInBounds_toArray, List.set_cons_zero, List.set_cons_succ]
    refine takeR (i := 4) (v := ?_) (some 19) rfl rfl (by kernel_rfl) (by kernel_rfl) (by kernel_rfl) (fun _ _ _ h => h) (Or.inl ⟨by rfl, ?_⟩) (by assumption) ?_
    rotate_left
    · intro w hSw; (try dsimp only at hSw); obtain ⟨s1, s2⟩ := hSw; first | (go_simp; done) | (go_simp; with_reducible rfl)
    try simp only [Act.put, List.setIfInBounds_toArray, List.set_cons_zero, List.set_cons_succ]
    refine takeR (i := 5) (v := ?_) (some 20) rfl rfl (by kernel_rfl) (by kernel_rfl) (by kernel_rfl) (fun _ _ _ h => h) (Or.inl ⟨by rfl, ?_⟩) (by assumption) ?_
    rotate_left
    · intro w hSw; (try dsimp only at hSw); obtain ⟨s1, s2⟩ := hSw; first | (go_simp; done) | (go_simp; with_reducible rfl)
    try simp only [Act.put, List.setIfInBounds_toArray, List.set_cons_zero, List.set_cons_succ]
    refine takeR (i := 6) (v := ?_) (some 21) rfl rfl (by kernel_rfl) (by kernel_rfl) (by kernel_rfl) (fun _ _ _ h => h) (Or.inl ⟨by rfl, ?_⟩) (by assumption) ?_
    rotate_left
    · intro w hSw; (try dsimp only at hSw); obtain ⟨s1, s2⟩ := hSw; first | (go_simp; done) | (go_simp; with_reducible rfl)
    try simp only [Act.put, List.setIfInBounds_toArray, List.set_cons_zero, List.set_cons_succ]
    refine takeR (i := 7) (v := ?_) (some 22) rfl rfl (by kernel_rfl) (by kernel_rfl) (by kernel_rfl) (fun _ _ _ h => h) (Or.inl ⟨by rfl, ?_⟩) (by assumption) ?_
    rotate_left
    · intro w hSw; (try dsimp only at hSw); obtain ⟨s1, s2⟩ := hSw; first | (go_simp; done) | (go_simp; with_reducible rfl)
    try simp only [Act.put, List.setIfInBounds_toArray, List.set_cons_zero, List.set_cons_succ]
    refine takeR (i := 8) (v := ?_) (some 23) rfl rfl (by kernel_rfl) (by kernel_rfl) (by kernel_rfl) (fun _ _ _ h => h) (Or.inl ⟨by rfl, ?_⟩) (by assumption) ?_
    rotate_left
    · intro w hSw; (try dsimp only at hSw); obtain ⟨s1, s2⟩ := hSw; first | (go_simp; done) | (go_simp; with_reducible rfl)
    try simp only [Act.put, List.setIfInBounds_toArray, List.set_cons_zero, List.set_cons_succ]
    obtain ⟨WD, hWD⟩ : ∃ W', W' = W.drew := ⟨_, rfl⟩
    have hbD : Below W.heap.size W WD := by rw [hWD]; exact (Below.refl _ _).drew
    rw [← hWD] at hHeld ⊢
    clear hWD
    have hstD := Hst.out.keep hbD
    have hbkD := Hbk.out.keep hbD
    have cKD := hbkD.cell 0
    simp only [List.getElem?_cons_zero] at cKD
    have hgW : g < W.heap.size := Hst.out.lt
    have hKD : Kept B g bf bp W WD := Kept.of_below hbD hgW
    have hlit := Literal_ct (v := v) hstD hvL true (by omega)
    have Hlit := hide hlit
    have HstD := hide hstD
    have HKD := hide hKD
    have HbkD := hide hbkD
    clear hlit hstD hKD hbkD hbD cP cR cK fK
    refine wpAnyH_ready (rs := [9, 10]) (by kernel_rfl) (by simp) ?_
    refine AllReadyH.cons rfl (fun K hK => ?_) (AllReadyH.cons rfl (fun K hK => ?_) AllReadyH.nil)
    · skip
      go_simp
      refine Hlit.out.mono ?_
      rintro e w1 ⟨ms1, k1, rfl, hst1, hk1, hkl1, hq1⟩
      go_simp
      have hKW1 := HKD.out.trans hk1
      have cP1 := (hKW1.blk Hj.out.bp_ (Hst.out.free Hj.out.bp_ (by omega) (by decide))).cell 0
      have cR1 := (hKW1.blk Hrg.out (Hkp.out.free Hfr.out)).cell 0
      have cK1 := (hKW1.blk Hbk.out (Hst.out.free Hbk.out (by omega) (by decide))).cell 0
      simp only [List.getElem?_cons_zero] at cP1 cR1 cK1
      have Hst1 := hide hst1
      have HKW1 := hide hKW1
      have Hq1 := hide hq1
      clear hst1 hk1 hq1 hKW1
      refine hK.out _ _ ?_ (fun hHeld2 => ?_)
      · exact ⟨cP1, cR1⟩
      clear hK K hHeld
      try simp only [Act.put, List.setIfInBounds_toArray, List.set_cons_zero, List.set_cons_succ]
      have hHeld := hHeld2; clear hHeld2
      refine wpAnyH_ready (rs := [10]) (by kernel_rfl) (by simp) ?_
      refine AllReadyH.cons rfl (fun K hK => ?_) AllReadyH.nil
      go_simp
      refine hK.out _ _ ?_ (fun hHeld2 => ?_)
      · exact ⟨cP1, cR1⟩
      clear hK K hHeld
      try simp only [Act.put, List.setIfInBounds_toArray, List.set_cons_zero, List.set_cons_succ]
      have hHeld := hHeld2; clear hHeld2
      refine wpAnyH_ready (rs := [11]) (by kernel_rfl) (by simp) ?_
      refine AllReadyH.cons rfl (fun K hK => ?_) AllReadyH.nil
      have hl1 : (ns ++ ms).length ≤ (ns ++ ms ++ ms1).length := len_more _ _
      have hqk : ∀ s, sem (ns ++ ms ++ ms1) k s = sem (ns ++ ms) k s := fun s => sem_add Hst.out.ok ms1 hkl s
      have hand := And_cube Hst1.out hkl1 (show k < (ns ++ ms ++ ms1).length + 2 by omega) ((CubeS.lit v true).congr Hq1.out) (((cubeS_all pre (fun p => p.1.2.toNat) true CubeS.one : CubeS _).congr (f := _) (g := (fun s => pre.all (fun p => s p.1.2.toNat))) (fun s => by simp)).congr (fun s => by rw [hqk, Hq.out])) (by omega)
      go_simp
      refine hand.mono ?_
      clear hand
      rintro e w2 ⟨ms2, k2, rfl, hst2, hk2, hkl2, hq2⟩
      go_simp
      have hKW2 := HKW1.out.trans hk2
      have cP2 := (hKW2.blk Hj.out.bp_ (Hst.out.free Hj.out.bp_ (by omega) (by decide))).cell 0
      have cR2 := (hKW2.blk Hrg.out (Hkp.out.free Hfr.out)).cell 0
      have bK2 := hKW2.blk Hbk.out (Hst.out.free Hbk.out (by omega) (by decide))
      have cK2 := bK2.cell 0
      have fK2 := bK2.frozen 0
      simp only [List.getElem?_cons_zero] at cP2 cR2 cK2
      rw [List.append_assoc, List.append_assoc] at hst2 hkl2 hq2
      have hsem : ∀ s, sem (ns ++ (ms ++ (ms1 ++ ms2))) k2 s = (fun s => (pre ++ [y]).all (fun p => s p.1.2.toNat)) s := fun s => by
        rw [hq2, Hq1.out, hqk, Hq.out]
        simp only [snoc_all, hv, Int.toNat_natCast]
        cases s v <;> simp
      obtain ⟨r1, r2, r3⟩ := Hj.out.step (BL := WL.heap.size) Hst.out Hbk.out hKW2 (hst2.mono (show _ ≤ C + 49 * (pre ++ [y]).length by simp only [List.length_append, List.length_cons, List.length_nil]; omega)) hkl2 hsem hgl (by omega) (by omega) (by omega) (by omega) (by omega) (by omega) (by omega) (fun _ => rfl)
      have R1 := hide r1
      have R2 := hide r2
      have R3 := hide r3
      clear r1 r2 r3 hst2 hk2 hq2 hKW2 bK2 hsem hqk
      refine hK.out _ _ ?_ (fun hHeld2 => ?_)
      · exact ⟨cP2, cR2⟩
      clear hK K hHeld
      try simp only [Act.put, List.setIfInBounds_toArray, List.set_cons_zero, List.set_cons_succ]
      have hHeld := hHeld2; clear hHeld2
      refine wpAnyH_ready (rs := [12]) (by kernel_rfl) (by simp) ?_
      refine AllReadyH.cons rfl (fun K hK => ?_) AllReadyH.nil
      go_simp
      refine hK.out _ _ ?_ (fun hHeld2 => ?_)
      · exact ⟨R1.out.bp_.cell 0, by
          have := R1.out.kept.blk Hreg.out Hfr.out
          exact this.cell 0⟩
      clear hK K hHeld
      try simp only [Act.put, List.setIfInBounds_toArray, List.set_cons_zero, List.set_cons_succ]
      refine wpAnyH_done (by kernel_rfl) ?_ _
      have hbsf := Hst.out.free Hbs.out (by omega) (by decide)
      have hAb := (FA.out.kept Hkp.out)
      refine ⟨R2.out, ⟨R3.out _ hbsf.1 (.inr hbsf) (by omega), fun h0 r hr => R3.out r (hAb h0 r hr).1 (hAb h0 r hr).2 (by have := (FA.out h0 r hr).1; omega)⟩, R1.out, (R3.out _ hbsf.1 (.inr hbsf) (by omega)).trans Hbs.out⟩
    · skip
      go_simp
      refine hK.out _ _ ?_ (fun hHeld2 => ?_)
      · exact hHeld
      clear hK K hHeld
      try simp only [Act.put, List.setIfInBounds_toArray, List.set_cons_zero, List.set_cons_succ]
      have hHeld := hHeld2; clear hHeld2
      refine wpAnyH_ready (rs := [9]) (by kernel_rfl) (by simp) ?_
      refine AllReadyH.cons rfl (fun K hK => ?_) AllReadyH.nil
      go_simp
      refine Hlit.out.mono ?_
      rintro e w1 ⟨ms1, k1, rfl, hst1, hk1, hkl1, hq1⟩
      go_simp
      have hKW1 := HKD.out.trans hk1
      have cP1 := (hKW1.blk Hj.out.bp_ (Hst.out.free Hj.out.bp_ (by omega) (by decide))).cell 0
      have cR1 := (hKW1.blk Hrg.out (Hkp.out.free Hfr.out)).cell 0
      have cK1 := (hKW1.blk Hbk.out (Hst.out.free Hbk.out (by omega) (by decide))).cell 0
      simp only [List.getElem?_cons_zero] at cP1 cR1 cK1
      have Hst1 := hide hst1
      have HKW1 := hide hKW1
      have Hq1 := hide hq1
      clear hst1 hk1 hq1 hKW1
      refine hK.out _ _ ?_ (fun hHeld2 => ?_)
      · exact ⟨cP1, cR1⟩
      clear hK K hHeld
      try simp only [Act.put, List.setIfInBounds_toArray, List.set_cons_zero, List.set_cons_succ]
      have hHeld := hHeld2; clear hHeld2
      refine wpAnyH_ready (rs := [11]) (by kernel_rfl) (by simp) ?_
      refine AllReadyH.cons rfl (fun K hK => ?_) AllReadyH.nil
      have hl1 : (ns ++ ms).length ≤ (ns ++ ms ++ ms1).length := len_more _ _
      have hqk : ∀ s, sem (ns ++ ms ++ ms1) k s = sem (ns ++ ms) k s := fun s => sem_add Hst.out.ok ms1 hkl s
      have hand := And_cube Hst1.out hkl1 (show k < (ns ++ ms ++ ms1).length + 2 by omega) ((CubeS.lit v true).congr Hq1.out) (((cubeS_all pre (fun p => p.1.2.toNat) true CubeS.one : CubeS _).congr (f := _) (g := (fun s => pre.all (fun p => s p.1.2.toNat))) (fun s => by simp)).congr (fun s => by rw [hqk, Hq.out])) (by omega)
      go_simp
      refine hand.mono ?_
      clear hand
      rintro e w2 ⟨ms2, k2, rfl, hst2, hk2, hkl2, hq2⟩
      go_simp
      have hKW2 := HKW1.out.trans hk2
      have cP2 := (hKW2.blk Hj.out.bp_ (Hst.out.free Hj.out.bp_ (by omega) (by decide))).cell 0
      have cR2 := (hKW2.blk Hrg.out (Hkp.out.free Hfr.out)).cell 0
      have bK2 := hKW2.blk Hbk.out (Hst.out.free Hbk.out (by omega) (by decide))
      have cK2 := bK2.cell 0
      have fK2 := bK2.frozen 0
      simp only [List.getElem?_cons_zero] at cP2 cR2 cK2
      rw [List.append_assoc, List.append_assoc] at hst2 hkl2 hq2
      have hsem : ∀ s, sem (ns ++ (ms ++ (ms1 ++ ms2))) k2 s = (fun s => (pre ++ [y]).all (fun p => s p.1.2.toNat)) s := fun s => by
        rw [hq2, Hq1.out, hqk, Hq.out]
        simp only [snoc_all, hv, Int.toNat_natCast]
        cases s v <;> simp
      obtain ⟨r1, r2, r3⟩ := Hj.out.step (BL := WL.heap.size) Hst.out Hbk.out hKW2 (hst2.mono (show _ ≤ C + 49 * (pre ++ [y]).length by simp only [List.length_append, List.length_cons, List.length_nil]; omega)) hkl2 hsem hgl (by omega) (by omega) (by omega) (by omega) (by omega) (by omega) (by omega) (fun _ => rfl)
      have R1 := hide r1
      have R2 := hide r2
      have R3 := hide r3
      clear r1 r2 r3 hst2 hk2 hq2 hKW2 bK2 hsem hqk
      refine hK.out _ _ ?_ (fun hHeld2 => ?_)
      · exact ⟨cP2, cR2⟩
      clear hK K hHeld
      try simp only [Act.put, List.setIfInBounds_toArray, List.set_cons_zero, List.set_cons_succ]
      have hHeld := hHeld2; clear hHeld2
      refine wpAnyH_ready (rs := [12]) (by kernel_rfl) (by simp) ?_
      refine AllReadyH.cons rfl (fun K hK => ?_) AllReadyH.nil
      go_simp
      refine hK.out _ _ ?_ (fun hHeld2 => ?_)
      · exact ⟨R1.out.bp_.cell 0, by
          have := R1.out.kept.blk Hreg.out Hfr.out
          exact this.cell 0⟩
      clear hK K hHeld
      try simp only [Act.put, List.setIfInBounds_toArray, List.set_cons_zero, List.set_cons_succ]
      refine wpAnyH_done (by kernel_rfl) ?_ _
      have hbsf := Hst.out.free Hbs.out (by omega) (by decide)
      have hAb := (FA.out.kept Hkp.out)
      refine ⟨R2.out, ⟨R3.out _ hbsf.1 (.inr hbsf) (by omega), fun h0 r hr => R3.out r (hAb h0 r hr).1 (hAb h0 r hr).2 (by have := (FA.out h0 r hr).1; omega)⟩, R1.out, (R3.out _ hbsf.1 (.inr hbsf) (by omega)).trans Hbs.out⟩
  case done1 =>
    intro D1 ys wD hD hys hJy hKD
    obtain ⟨hj, _⟩ := hJy
    have hyl : ys.length ≤ 24 := by
      have h1 := congrArg List.length hys
      rw [List.length_map, backL_len] at h1
      have := HA.out.len
      omega
    have HJ1 := hide (hj.less (C' := C + 1176 + 49 * 0) (f' := (fun s => x.need.all (fun p => s p.toNat) && ([] : List (Bk x.no)).all (fun p => !s p.1.2.toNat))) (by omega) (fun s => by rw [all_back hys (fun p => s p.toNat)]; simp))
    have HD1 := hide hKD
    have hD1l : D1 < wD.heap.size := (Array.getElem?_eq_some_iff.1 hKD).1
    have cS4 := hj.bc.cell 1
    simp only [List.getElem?_cons_zero, List.getElem?_cons_succ] at cS4
    have lwD := hj.kept.size
    have lbD := (hj.bc).lt
    obtain ⟨_, _, _, _, _, hbkD⟩ := hj.at_
    have lkD := hbkD.lt
    clear hj hys hKD hbkD cS3 hS3 hAl hrdL
    dsimp only
    go_wp2_with (go_at_call 125; refine (Backward_ct A' m' c' _).mono ?_; rintro e w' ⟨rfl, rfl⟩)
    have cBs := Blk.new wD 22 [.slice A' m' c']
    have hbL := (Below.refl wD.heap.size wD).alloc (Nat.le_refl _) (.cells #[.slice A' m' c'] 22)
    have hzL : (wD.alloc (.cells #[.slice A' m' c'] 22)).heap.size = wD.heap.size + 1 := by rw [World.size_alloc]
    obtain ⟨WM, hWM⟩ : ∃ W, W = wD.alloc (.cells #[.slice A' m' c'] 22) := ⟨_, rfl⟩
    rw [← hWM] at cBs hbL hzL ⊢
    clear hWM
    have hJL := HJ1.out.keep hbL hgl
    have hcBs := cBs.cell 0
    simp only [List.getElem?_cons_zero] at hcBs
    have hrdL := FB.out.rd hJL.kept HB.out
    have hAl : 0 < m' → ∀ r, blkA A' = some r → r < WM.heap.size := fun h0 r hr => Nat.lt_of_lt_of_le (FB.out h0 r hr).1 hJL.kept.size
    have HJL := hide hJL
    have HcBs := hide cBs
    have hBsl := cBs.lt
    replace HD1 := hide ((hbL.block D1 hD1l).trans HD1.out)
    clear hJL cBs hbL
    refine (wpIn_wide (n := 8)).1 (wpIn_rangeFunc_ownH (w := WM) rfl (by omega) (gf := 153) (lb := #[.pointer (some ⟨wD.heap.size, 0, none⟩)]) rfl trivial (enters_of Tryz.func153 (by kernel_rfl) rfl)
      (back_stops Fence.wide 7 trivial rfl (by omega) (wD.heap.size) A' m' c' x.no WM hrdL hcBs) kpB_t (kpB_b hBsl hAl) (Below.refl _ _) (fun _ => rfl)
      (fun pre W => CuJ L B g bf bp w ns (C + 1176 + 49 * pre.length) (fun s => x.need.all (fun p => s p.toNat) && pre.all (fun p => !s p.1.2.toNat)) w.heap.size (w.heap.size + 1) (w.heap.size + 1 + 1) rb A A' m c m' c' W ∧ Blk 22 W (wD.heap.size) [.slice A' m' c'] ∧ W.heap[D1]? = some (.deferred (some []))) (fun _ _ _ => False) ?own2 (fun _ _ _ _ _ hs _ _ => hs) ?start2
      (fun y a' _ => a' = { tmps := #[.pointer (some ⟨rb, 0, none⟩), .agg #[.slice A m c, .slice A' m' c'], .pointer (some ⟨w.heap.size, 0, none⟩), .pointer (some ⟨w.heap.size + 1, 0, none⟩), .int .i64 0, .pointer (some ⟨w.heap.size + 1 + 1, 0, none⟩), undef, undef, undef, .int .i64 y.1.2, .pointer (some ⟨w.heap.size + 1, 0, none⟩), .slice A m c, .func (.func 153) #[] #[.pointer (some ⟨w.heap.size + 1 + 1 + 1, 0, none⟩)], undef, undef, undef, undef, undef, undef, undef, undef, undef, undef, undef, undef, undef, undef, .pointer (some ⟨w.heap.size + 1, 1, none⟩), .slice A' m' c', .func (.func 153) #[] #[.pointer (some ⟨wD.heap.size, 0, none⟩)], .int .i64 y.1.1, .int .i64 y.1.2, undef, undef, undef, undef, undef, undef, undef, undef, undef, undef, undef, undef, undef], defers := [] }) (fun _ _ _ _ _ _ hs _ _ => hs) ?assign2 ?body2 ?done2 ?stop2)
    case own2 =>
      rintro pre X Y row ⟨h1, h2, h3⟩ hg hr
      exact ⟨h1.turn hg hr (by omega) hgl (by omega) (by omega), h2.grown hg (turn_ne hr h2.cells), (hg.block D1 (Array.getElem?_eq_some_iff.1 h3).1 (fun e => by have := (hr D1 e.symm).1; omega)).trans h3⟩
    case start2 => exact ⟨HJL.out, HcBs.out, HD1.out⟩
    case assign2 =>
      intro l0 pre y W K hi hK
      have HK := hide hK
      have Hi := hide hi
      clear hK hi
      unfold encBk bkV
      dsimp only
      gi_wp2
      exact HK.out _ _ ⟨Nat.le_refl _, fun _ _ _ h _ => h⟩ ⟨rfl, fun _ _ _ => rfl⟩ Hi.out rfl
    case body2 =>
      rintro l0 pre y a' W hl ⟨r, hr⟩ ⟨hj, hbs, hd1⟩ rfl hlt
      obtain ⟨ms, k, hst, hkl, hq, hbk⟩ := hj.at_
      have hkp := hj.kept
      obtain ⟨v, hv⟩ : ∃ v : Nat, y.1.2 = (v : Int) := ⟨y.1.2.toNat, by have := (Hx'.out _ (mem_back y)).1; omega⟩
      have hvL : v < L := by have := (Hx'.out _ (mem_back y)).2; omega
      have hxl : pre.length < 24 := by
        have := HB.out.len
        omega
      have hreg := hkp.blk Hreg.out Hfr.out
      have cP := hj.bp_.cell 0
      have cR := hreg.cell 0
      have cK := hbk.cell 0
      have fK := hbk.frozen 0
      have lK := hbk.lt
      simp only [List.getElem?_cons_zero] at cP cR cK
      have Hj := hide hj
      have Hst := hide hst
      have Hq := hide hq
      have Hbk := hide hbk
      have Hkp := hide hkp
      have Hbs := hide hbs
      have Hrg := hide hreg
      have Hd1 := hide hd1
      clear hj hst hq hbk hkp hbs hreg hd1
      rw [hv]
      gi_wp2
      refine wpIn_region_round (S := (fun w' => w'.cell? ⟨w.heap.size, 0, none⟩ = some (.pointer (some ⟨rb, 0, none⟩)) ∧ w'.cell? ⟨rb, 0, none⟩ = some (.pointer (some ⟨g, 0, none⟩)))) (by kernel_rfl) ?_ (by kernel_rfl) ?_ (fun hHeld => ?_)
      · rintro ⟨_, _, h⟩; exact h
      · exact ⟨cP, cR⟩
      refine takeR (i := 0) (v := ?_) (some 32) rfl rfl (by kernel_rfl) (by kernel_rfl) (by kernel_rfl) (fun _ _ _ h => h) (Or.inl ⟨by rfl, ?_⟩) (by assumption) ?_
      rotate_left
      · intro w hSw; (try dsimp only at hSw); obtain ⟨s1, s2⟩ := hSw; first | (go_simp; done) | (go_simp; with_reducible rfl)
      try simp only [Act.put, List.setIfInBounds_toArray, List.set_cons_zero, List.set_cons_succ]
      refine takeR (i := 1) (v := ?_) (some 33) rfl rfl (by kernel_rfl) (by kernel_rfl) (by kernel_rfl) (fun _ _ _ h => h) (Or.inl ⟨by rfl, ?_⟩) (by assumption) ?_
      rotate_left
      · intro w hSw; (try dsimp only at hSw); obtain ⟨s1, s2⟩ := hSw; first | (go_simp; done) | (go_simp; with_reducible rfl)
      try simp only [Act.put, List.setIfInBounds_toArray, List.set_cons_zero, List.set_cons_succ]
      refine takeR (i := 2) (v := ?_) (some 34) rfl rfl (by kernel_rfl) (by kernel_rfl) (by kernel_rfl) (fun _ _ _ h => h) (Or.inl ⟨by rfl, ?_⟩) (by assumption) ?_
      rotate_left
      · intro w hSw; (try dsimp only at hSw); obtain ⟨s1, s2⟩ := hSw; first | (go_simp; done) | (go_simp; with_reducible rfl)
      try simp only [Act.put, List.setIfInBounds_toArray, List.set_cons_zero, List.set_cons_succ]
      refine takeR (i := 3) (v := ?_) (some 35) rfl rfl (by kernel_rfl) (by kernel_rfl) (by kernel_rfl) (fun _ _ _ h => h) (Or.inl ⟨by rfl, ?_⟩) (by assumption) ?_
      rotate_left
      · intro w hSw; (try dsimp only at hSw); obtain ⟨s1, s2⟩ := hSw; first | (go_simp; done) | (go_simp; with_reducible rfl)
      try simp only [Act.put, List.setIfInBounds_toArray, List.set_cons_zero, List.set_cons_succ]
      refine takeR (i := 4) (v := ?_) (some 36) rfl rfl (by kernel_rfl) (by kernel_rfl) (by kernel_rfl) (fun _ _ _ h => h) (Or.inl ⟨by rfl, ?_⟩) (by assumption) ?_
      rotate_left
      · intro w hSw; (try dsimp only at hSw); obtain ⟨s1, s2⟩ := hSw; first | (go_simp; done) | (go_simp; with_reducible rfl)
      try simp only [Act.put, List.setIfInBounds_toArray, List.set_cons_zero, List.set_cons_succ]
      refine takeR (i := 5) (v := ?_) (some 37) rfl rfl (by kernel_rfl) (by kernel_rfl) (by kernel_rfl) (fun _ _ _ h => h) (Or.inl ⟨by rfl, ?_⟩) (by assumption) ?_
      rotate_left
      · intro w hSw; (try dsimp only at hSw); obtain ⟨s1, s2⟩ := hSw; first | (go_simp; done) | (go_simp; with_reducible rfl)
      try simp only [Act.put, List.setIfInBounds_toArray, List.set_cons_zero, List.set_cons_succ]
      refine takeR (i := 6) (v := ?_) (some 38) rfl rfl (by kernel_rfl) (by kernel_rfl) (by kernel_rfl) (fun _ _ _ h => h) (Or.inl ⟨by rfl, ?_⟩) (by assumption) ?_
      rotate_left
      · intro w hSw; (try dsimp only at hSw); obtain ⟨s1, s2⟩ := hSw; first | (go_simp; done) | (go_simp; with_reducible rfl)
      try simp only [Act.put, List.setIfInBounds_toArray, List.set_cons_zero, List.set_cons_succ]
      refine takeR (i := 7) (v := ?_) (some 39) rfl rfl (by kernel_rfl) (by kernel_rfl) (by kernel_rfl) (fun _ _ _ h => h) (Or.inl ⟨by rfl, ?_⟩) (by assumption) ?_
      rotate_left
      · intro w hSw; (try dsimp only at hSw); obtain ⟨s1, s2⟩ := hSw; first | (go_simp; done) | (go_simp; with_reducible rfl)
      try simp only [Act.put, List.setIfInBounds_toArray, List.set_cons_zero, List.set_cons_succ]
      refine takeR (i := 8) (v := ?_) (some 40) rfl rfl (by kernel_rfl) (by kernel_rfl) (by kernel_rfl) (fun _ _ _ h => h) (Or.inl ⟨by rfl, ?_⟩) (by assumption) ?_
      rotate_left
      · intro w hSw; (try dsimp only at hSw); obtain ⟨s1, s2⟩ := hSw; first | (go_simp; done) | (go_simp; with_reducible rfl)
      try simp only [Act.put, List.setIfInBounds_toArray, List.set_cons_zero, List.set_cons_succ]
      obtain ⟨WD, hWD⟩ : ∃ W', W' = W.drew := ⟨_, rfl⟩
      have hbD : Below W.heap.size W WD := by rw [hWD]; exact (Below.refl _ _).drew
      rw [← hWD] at hHeld ⊢
      clear hWD
      have hstD := Hst.out.keep hbD
      have hbkD := Hbk.out.keep hbD
      have cKD := hbkD.cell 0
      simp only [List.getElem?_cons_zero] at cKD
      have hgW : g < W.heap.size := Hst.out.lt
      have hKD : Kept B g bf bp W WD := Kept.of_below hbD hgW
      have hlit := Literal_ct (v := v) hstD hvL false (by omega)
      have Hlit := hide hlit
      have HstD := hide hstD
      have HKD := hide hKD
      have HbkD := hide hbkD
      clear hlit hstD hKD hbkD hbD cP cR cK fK
      refine wpAnyH_ready (rs := [9, 10]) (by kernel_rfl) (by simp) ?_
      refine AllReadyH.cons rfl (fun K hK => ?_) (AllReadyH.cons rfl (fun K hK => ?_) AllReadyH.nil)
      · skip
        go_simp
        refine Hlit.out.mono ?_
        rintro e w1 ⟨ms1, k1, rfl, hst1, hk1, hkl1, hq1⟩
        go_simp
        have hKW1 := HKD.out.trans hk1
        have cP1 := (hKW1.blk Hj.out.bp_ (Hst.out.free Hj.out.bp_ (by omega) (by decide))).cell 0
        have cR1 := (hKW1.blk Hrg.out (Hkp.out.free Hfr.out)).cell 0
        have cK1 := (hKW1.blk Hbk.out (Hst.out.free Hbk.out (by omega) (by decide))).cell 0
        simp only [List.getElem?_cons_zero] at cP1 cR1 cK1
        have Hst1 := hide hst1
        have HKW1 := hide hKW1
        have Hq1 := hide hq1
        clear hst1 hk1 hq1 hKW1
        refine hK.out _ _ ?_ (fun hHeld2 => ?_)
        · exact ⟨cP1, cR1⟩
        clear hK K hHeld
        try simp only [Act.put, List.setIfInBounds_toArray, List.set_cons_zero, List.set_cons_succ]
        have hHeld := hHeld2; clear hHeld2
        refine wpAnyH_ready (rs := [10]) (by kernel_rfl) (by simp) ?_
        refine AllReadyH.cons rfl (fun K hK => ?_) AllReadyH.nil
        go_simp
        refine hK.out _ _ ?_ (fun hHeld2 => ?_)
        · exact ⟨cP1, cR1⟩
        clear hK K hHeld
        try simp only [Act.put, List.setIfInBounds_toArray, List.set_cons_zero, List.set_cons_succ]
        have hHeld := hHeld2; clear hHeld2
        refine wpAnyH_ready (rs := [11]) (by kernel_rfl) (by simp) ?_
        refine AllReadyH.cons rfl (fun K hK => ?_) AllReadyH.nil
        have hl1 : (ns ++ ms).length ≤ (ns ++ ms ++ ms1).length := len_more _ _
        have hqk : ∀ s, sem (ns ++ ms ++ ms1) k s = sem (ns ++ ms) k s := fun s => sem_add Hst.out.ok ms1 hkl s
        have hand := And_cube Hst1.out hkl1 (show k < (ns ++ ms ++ ms1).length + 2 by omega) ((CubeS.lit v false).congr Hq1.out) (((cubeS_all pre (fun p => p.1.2.toNat) false (cubeS_all x.need (fun p => p.toNat) true CubeS.one) : CubeS _).congr (f := _) (g := (fun s => x.need.all (fun p => s p.toNat) && pre.all (fun p => !s p.1.2.toNat))) (fun s => by simp)).congr (fun s => by rw [hqk, Hq.out])) (by omega)
        go_simp
        refine hand.mono ?_
        clear hand
        rintro e w2 ⟨ms2, k2, rfl, hst2, hk2, hkl2, hq2⟩
        go_simp
        have hKW2 := HKW1.out.trans hk2
        have cP2 := (hKW2.blk Hj.out.bp_ (Hst.out.free Hj.out.bp_ (by omega) (by decide))).cell 0
        have cR2 := (hKW2.blk Hrg.out (Hkp.out.free Hfr.out)).cell 0
        have bK2 := hKW2.blk Hbk.out (Hst.out.free Hbk.out (by omega) (by decide))
        have cK2 := bK2.cell 0
        have fK2 := bK2.frozen 0
        simp only [List.getElem?_cons_zero] at cP2 cR2 cK2
        rw [List.append_assoc, List.append_assoc] at hst2 hkl2 hq2
        have hsem : ∀ s, sem (ns ++ (ms ++ (ms1 ++ ms2))) k2 s = (fun s => x.need.all (fun p => s p.toNat) && (pre ++ [y]).all (fun p => !s p.1.2.toNat)) s := fun s => by
          rw [hq2, Hq1.out, hqk, Hq.out]
          simp only [snoc_all, hv, Int.toNat_natCast]
          cases s v <;> simp
        obtain ⟨r1, r2, r3⟩ := Hj.out.step (BL := WM.heap.size) Hst.out Hbk.out hKW2 (hst2.mono (show _ ≤ C + 1176 + 49 * (pre ++ [y]).length by simp only [List.length_append, List.length_cons, List.length_nil]; omega)) hkl2 hsem hgl (by omega) (by omega) (by omega) (by omega) (by omega) (by omega) (by omega) (fun _ => rfl)
        have R1 := hide r1
        have R2 := hide r2
        have R3 := hide r3
        clear r1 r2 r3 hst2 hk2 hq2 hKW2 bK2 hsem hqk
        refine hK.out _ _ ?_ (fun hHeld2 => ?_)
        · exact ⟨cP2, cR2⟩
        clear hK K hHeld
        try simp only [Act.put, List.setIfInBounds_toArray, List.set_cons_zero, List.set_cons_succ]
        have hHeld := hHeld2; clear hHeld2
        refine wpAnyH_ready (rs := [12]) (by kernel_rfl) (by simp) ?_
        refine AllReadyH.cons rfl (fun K hK => ?_) AllReadyH.nil
        go_simp
        refine hK.out _ _ ?_ (fun hHeld2 => ?_)
        · exact ⟨R1.out.bp_.cell 0, by
            have := R1.out.kept.blk Hreg.out Hfr.out
            exact this.cell 0⟩
        clear hK K hHeld
        try simp only [Act.put, List.setIfInBounds_toArray, List.set_cons_zero, List.set_cons_succ]
        refine wpAnyH_done (by kernel_rfl) ?_ _
        have hbsf := Hst.out.free Hbs.out (by omega) (by decide)
        have hAb := (FB.out.kept Hkp.out)
        refine ⟨R2.out, ⟨R3.out _ hbsf.1 (.inr hbsf) (by omega), fun h0 r hr => R3.out r (hAb h0 r hr).1 (hAb h0 r hr).2 (by have := (FB.out h0 r hr).1; omega)⟩, R1.out, (R3.out _ hbsf.1 (.inr hbsf) (by omega)).trans Hbs.out, (R3.out D1 (Array.getElem?_eq_some_iff.1 Hd1.out).1 (.inr ⟨(Array.getElem?_eq_some_iff.1 Hd1.out).1, (Hst.out.notG Hd1.out rfl).1, by omega, by omega, (Hst.out.notG Hd1.out rfl).2⟩) (by omega)).trans Hd1.out⟩
      · skip
        go_simp
        refine hK.out _ _ ?_ (fun hHeld2 => ?_)
        · exact hHeld
        clear hK K hHeld
        try simp only [Act.put, List.setIfInBounds_toArray, List.set_cons_zero, List.set_cons_succ]
        have hHeld := hHeld2; clear hHeld2
        refine wpAnyH_ready (rs := [9]) (by kernel_rfl) (by simp) ?_
        refine AllReadyH.cons rfl (fun K hK => ?_) AllReadyH.nil
        go_simp
        refine Hlit.out.mono ?_
        rintro e w1 ⟨ms1, k1, rfl, hst1, hk1, hkl1, hq1⟩
        go_simp
        have hKW1 := HKD.out.trans hk1
        have cP1 := (hKW1.blk Hj.out.bp_ (Hst.out.free Hj.out.bp_ (by omega) (by decide))).cell 0
        have cR1 := (hKW1.blk Hrg.out (Hkp.out.free Hfr.out)).cell 0
        have cK1 := (hKW1.blk Hbk.out (Hst.out.free Hbk.out (by omega) (by decide))).cell 0
        simp only [List.getElem?_cons_zero] at cP1 cR1 cK1
        have Hst1 := hide hst1
        have HKW1 := hide hKW1
        have Hq1 := hide hq1
        clear hst1 hk1 hq1 hKW1
        refine hK.out _ _ ?_ (fun hHeld2 => ?_)
        · exact ⟨cP1, cR1⟩
        clear hK K hHeld
        try simp only [Act.put, List.setIfInBounds_toArray, List.set_cons_zero, List.set_cons_succ]
        have hHeld := hHeld2; clear hHeld2
        refine wpAnyH_ready (rs := [11]) (by kernel_rfl) (by simp) ?_
        refine AllReadyH.cons rfl (fun K hK => ?_) AllReadyH.nil
        have hl1 : (ns ++ ms).length ≤ (ns ++ ms ++ ms1).length := len_more _ _
        have hqk : ∀ s, sem (ns ++ ms ++ ms1) k s = sem (ns ++ ms) k s := fun s => sem_add Hst.out.ok ms1 hkl s
        have hand := And_cube Hst1.out hkl1 (show k < (ns ++ ms ++ ms1).length + 2 by omega) ((CubeS.lit v false).congr Hq1.out) (((cubeS_all pre (fun p => p.1.2.toNat) false (cubeS_all x.need (fun p => p.toNat) true CubeS.one) : CubeS _).congr (f := _) (g := (fun s => x.need.all (fun p => s p.toNat) && pre.all (fun p => !s p.1.2.toNat))) (fun s => by simp)).congr (fun s => by rw [hqk, Hq.out])) (by omega)
        go_simp
        refine hand.mono ?_
        clear hand
        rintro e w2 ⟨ms2, k2, rfl, hst2, hk2, hkl2, hq2⟩
        go_simp
        have hKW2 := HKW1.out.trans hk2
        have cP2 := (hKW2.blk Hj.out.bp_ (Hst.out.free Hj.out.bp_ (by omega) (by decide))).cell 0
        have cR2 := (hKW2.blk Hrg.out (Hkp.out.free Hfr.out)).cell 0
        have bK2 := hKW2.blk Hbk.out (Hst.out.free Hbk.out (by omega) (by decide))
        have cK2 := bK2.cell 0
        have fK2 := bK2.frozen 0
        simp only [List.getElem?_cons_zero] at cP2 cR2 cK2
        rw [List.append_assoc, List.append_assoc] at hst2 hkl2 hq2
        have hsem : ∀ s, sem (ns ++ (ms ++ (ms1 ++ ms2))) k2 s = (fun s => x.need.all (fun p => s p.toNat) && (pre ++ [y]).all (fun p => !s p.1.2.toNat)) s := fun s => by
          rw [hq2, Hq1.out, hqk, Hq.out]
          simp only [snoc_all, hv, Int.toNat_natCast]
          cases s v <;> simp
        obtain ⟨r1, r2, r3⟩ := Hj.out.step (BL := WM.heap.size) Hst.out Hbk.out hKW2 (hst2.mono (show _ ≤ C + 1176 + 49 * (pre ++ [y]).length by simp only [List.length_append, List.length_cons, List.length_nil]; omega)) hkl2 hsem hgl (by omega) (by omega) (by omega) (by omega) (by omega) (by omega) (by omega) (fun _ => rfl)
        have R1 := hide r1
        have R2 := hide r2
        have R3 := hide r3
        clear r1 r2 r3 hst2 hk2 hq2 hKW2 bK2 hsem hqk
        refine hK.out _ _ ?_ (fun hHeld2 => ?_)
        · exact ⟨cP2, cR2⟩
        clear hK K hHeld
        try simp only [Act.put, List.setIfInBounds_toArray, List.set_cons_zero, List.set_cons_succ]
        have hHeld := hHeld2; clear hHeld2
        refine wpAnyH_ready (rs := [12]) (by kernel_rfl) (by simp) ?_
        refine AllReadyH.cons rfl (fun K hK => ?_) AllReadyH.nil
        go_simp
        refine hK.out _ _ ?_ (fun hHeld2 => ?_)
        · exact ⟨R1.out.bp_.cell 0, by
            have := R1.out.kept.blk Hreg.out Hfr.out
            exact this.cell 0⟩
        clear hK K hHeld
        try simp only [Act.put, List.setIfInBounds_toArray, List.set_cons_zero, List.set_cons_succ]
        refine wpAnyH_done (by kernel_rfl) ?_ _
        have hbsf := Hst.out.free Hbs.out (by omega) (by decide)
        have hAb := (FB.out.kept Hkp.out)
        refine ⟨R2.out, ⟨R3.out _ hbsf.1 (.inr hbsf) (by omega), fun h0 r hr => R3.out r (hAb h0 r hr).1 (hAb h0 r hr).2 (by have := (FB.out h0 r hr).1; omega)⟩, R1.out, (R3.out _ hbsf.1 (.inr hbsf) (by omega)).trans Hbs.out, (R3.out D1 (Array.getElem?_eq_some_iff.1 Hd1.out).1 (.inr ⟨(Array.getElem?_eq_some_iff.1 Hd1.out).1, (Hst.out.notG Hd1.out rfl).1, by omega, by omega, (Hst.out.notG Hd1.out rfl).2⟩) (by omega)).trans Hd1.out⟩
    case done2 =>
      intro D2 ys W hD2 hys hJy hKD
      obtain ⟨hj, _, hd1⟩ := hJy
      have hyl : ys.length ≤ 24 := by
        have h1 := congrArg List.length hys
        rw [List.length_map, backL_len] at h1
        have := HB.out.len
        omega
      obtain ⟨ms, k, hst, hkl, hq, hbk⟩ := hj.at_
      have cK := hbk.cell 0
      simp only [List.getElem?_cons_zero] at cK
      have hsem : ∀ s, sem (ns ++ ms) k s = inS x s := fun s => by
        rw [hq, all_back hys (fun p => !s p.toNat)]
        rfl
      have hkp := hj.kept
      have Hst := hide hst
      have Hsem := hide hsem
      have Hkp := hide hkp
      have Hd1 := hide hd1
      have HKD := hide hKD
      have hne : D1 ≠ D2 := by omega
      clear hj hst hq hbk hsem hkp hd1 hKD hys
      dsimp only
      go_wp2
      refine leaves_marks [D2, D1] W (fun E hE => by
        rcases List.mem_cons.1 hE with rfl | hE
        · exact HKD.out
        · obtain rfl := List.mem_singleton.1 hE
          exact Hd1.out) (by simp; omega) fun W' hc => ?_
      refine ⟨.int .i64 (k : Nat), by simp [results, Tryz.results84, go_sem], ?_⟩
      have hM : ∀ i, i ∈ [D2, D1] → i ≠ g ∧ i ≠ bf ∧ i ≠ bp ∧ rowOf W g ≠ some i := fun i hi => by
        have ho : ∃ o, W.heap[i]? = some o ∧ o.isCells = false := by
          rcases List.mem_cons.1 hi with rfl | hi
          · exact ⟨_, HKD.out, rfl⟩
          · obtain rfl := List.mem_singleton.1 hi
            exact ⟨_, Hd1.out, rfl⟩
        obtain ⟨o, ho, hoc⟩ := ho
        have h1 := Hst.out.notG ho hoc
        have h2 : w.heap.size ≤ i := by
          rcases List.mem_cons.1 hi with rfl | hi
          · omega
          · obtain rfl := List.mem_singleton.1 hi
            omega
        exact ⟨h1.1, by omega, by omega, h1.2⟩
      refine ⟨ms, k, rfl, (Hst.out.chg hc hM).mono (by omega), Hkp.out.chg hc (fun i hi => ?_) hgl, hkl, Hsem.out⟩
      rcases List.mem_cons.1 hi with rfl | hi
      · omega
      · obtain rfl := List.mem_singleton.1 hi
        omega
    case stop2 =>
      intro D cc pre W _ _ h _
      exact h.elim
  case stop1 =>
    intro D cc pre W _ _ h _
    exact h.elim
end Go.Proofs.YtmjiiddncbhgpaaGreat
