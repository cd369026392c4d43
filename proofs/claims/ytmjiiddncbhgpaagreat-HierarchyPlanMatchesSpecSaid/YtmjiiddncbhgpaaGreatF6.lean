/- The law HierarchyPlanMatchesSpec of the package hierarchy holds, without a condition., part 6: Sw5. -/
import Derived.Test.YtmjiiddncbhgpaaGreatF1
import Derived.Test.YtmjiiddncbhgpaaGreatF2
import Derived.Test.YtmjiiddncbhgpaaGreatF3
import Derived.Test.YtmjiiddncbhgpaaGreatF4
import Derived.Test.YtmjiiddncbhgpaaGreatF5
import Derived.BigQuiet
import Derived.Deep.AppendLies
import Derived.Deep.Draws
import Derived.Deep.Fields
import Derived.Deep.LoopGhost
import Derived.Deep.QuietTactic
import Derived.Deep.Slices
import Derived.Laws.AppendOwnNone
import Derived.Laws.BitsAllLaws
import Derived.Laws.OwnMore
import Derived.Lib.Hide
import Derived.Lib.SlicesCompact
import Derived.LoopIn
import Derived.LoopNIn
import Derived.Maps.AppendAt
import Derived.OwnWalkIn
import Derived.RangeFuncBound
import Derived.RangeFuncCalls
import Derived.RangeFuncLeaves
import Derived.RangeFuncNested
import Derived.Shelf.Abstract
import Derived.Shelf.RegionOpen
import Derived.TacticsInMore
import Derived.Test.YtmjiiddncbhgpaaGreatProg
import Derived.WalkKit
namespace Go.Proofs.YtmjiiddncbhgpaaGreat
set_option linter.unusedVariables false
set_option linter.unusedSimpArgs false
open Go.RowKit Go.Shelf
attribute [local go_sem] Oper.semAt_some
theorem stepsW_snoc : ∀ (ms : List Mk) (i s : Nat) (m : Mk), stepsW i (ms ++ [m]) s = stepsW i ms s ++ (if canW s m = true then [(i + ms.length, m.cost, goW s m)] else []) := by
  intro ms
  induction ms with
  | nil => intro i s m; simp [stepsW]
  | cons a ms ih =>
    intro i s m
    rw [List.cons_append]
    unfold stepsW
    rw [ih]
    have e : i + 1 + ms.length = i + (a :: ms).length := by simp only [List.length_cons]; omega
    rw [e]
    split <;> simp
theorem stepsW_take {ms : List Mk} {k s : Nat} {m : Mk} (h : ms[k]? = some m) : stepsW 0 (ms.take (k + 1)) s = stepsW 0 (ms.take k) s ++ (if canW s m = true then [(k, m.cost, goW s m)] else []) := by
  rw [List.take_add_one, h]
  have hk := (List.getElem?_eq_some_iff.1 h).1
  show stepsW 0 (ms.take k ++ [m]) s = _
  rw [stepsW_snoc, List.length_take, Nat.min_eq_left (by omega), Nat.zero_add]
theorem stepsW_pre : ∀ (a b : List Mk) (i s : Nat), stepsW i a s <+: stepsW i (a ++ b) s := by
  intro a
  induction a with
  | nil => intro b i s; exact ⟨_, rfl⟩
  | cons m a ih =>
    intro b i s
    rw [List.cons_append]
    unfold stepsW
    split
    · obtain ⟨r, hr⟩ := ih b (i + 1) s
      exact ⟨r, by rw [List.cons_append, hr]⟩
    · exact ih b (i + 1) s
theorem stepsW_take_pre (ms : List Mk) (k s : Nat) : stepsW 0 (ms.take k) s <+: stepsW 0 ms s := by
  have := stepsW_pre (ms.take k) (ms.drop k) 0 s
  rwa [List.take_append_drop] at this
/-- a step of state s -/
abbrev Stp (ms : List Mk) (s : Nat) := { x : Nat × Int × Nat // x ∈ stepsW 0 ms s }
def stpV (x : Nat × Int × Nat) : Value := .agg #[.int .i64 x.1, .int .i64 x.2.1, .int .u32 x.2.2]
def encStp {ms : List Mk} {s : Nat} (x : Stp ms s) : Array Value := #[stpV x.1]
/-- what a round keeps: what lay below n₀, and the state's box -/
def KpS (n₀ Bs : Nat) (A B : World) : Prop := Below n₀ A B ∧ B.heap[Bs]? = A.heap[Bs]?
theorem kpS_t {n₀ Bs : Nat} {A B C : World} (h : KpS n₀ Bs A B) (k : KpS n₀ Bs B C) : KpS n₀ Bs A C := ⟨h.1.trans k.1, k.2.trans h.2⟩
theorem kpS_b {n₀ Bs : Nat} {w : World} (hn : n₀ ≤ w.heap.size) (hB : Bs < w.heap.size) (W : World) (l : Nat) (o o' : Obj) (hl : w.heap.size ≤ l) (h : W.heap[l]? = some o) (hc : o.isCells = false) (hw : o.isWalk = false) : KpS n₀ Bs W (W.putObj l o') :=
  ⟨belowK_b hn W l o o' hl h hc hw, World.putObj_heap_other (by omega)⟩
theorem or_andNot {s d a : Nat} (hs : s < 4294967296) (hd : d < 4294967296) (ha : a < 4294967296) : bits BinOp.or IntKind.u32 (bits BinOp.andNot IntKind.u32 (s : Int) (d : Int)) (a : Int) = ((lessW s d ||| a : Nat) : Int) := by
  rw [u32_andNot_nat s d hs hd, less_and hs hd, u32_or_nat _ _ (less_lt hs hd) ha]
theorem can_and {s : Nat} {m : Mk} (h1 : s < 4294967296) (h2 : m.pre < 4294967296) : (bits BinOp.and IntKind.u32 (s : Int) (m.pre : Int) == (m.pre : Int)) = canW s m := by
  rw [u32_and_nat s m.pre h1 h2]
  unfold canW
  rw [Bool.eq_iff_iff]
  simp only [beq_iff_eq, decide_eq_true_eq]
  omega
set_option maxRecDepth 100000 in
set_option maxHeartbeats 4000000 in
theorem steps1_in (F : Fence) (n : Nat) (hf : F.fn 145) (hro : F.round = none) (hn : 1 ≤ n) (l Bw Bs g s0 gl s : Nat) (ms : List Mk) (w0 : World) (h : WordsR w0 g s0 gl ms) (hs : s < 4294967296) (J Jx : List (Stp ms s) → World → Prop)
    (hY : ∀ pre (x : Stp ms s) W, J pre W → pre.length < (stepsW 0 ms s).length → YieldAt F (n - 1) Tryz.prog l (encStp x) W fun e W' =>
      (e = .returned (.bool true) ∧ J (pre ++ [x]) W' ∧ KpS w0.heap.size Bs W W') ∨ (e = .returned (.bool false) ∧ Jx (pre ++ [x]) W'))
    (W : World) (hJ : AbidesFrom W.heap.size J) (hb : Below w0.heap.size w0 W) (hBw : W.cell? ⟨Bw, 0, none⟩ = some (.pointer (some ⟨g, 0, none⟩))) (hBs : W.cell? ⟨Bs, 0, none⟩ = some (.int .u32 s)) (hBl : Bs < W.heap.size) (h0 : J [] W) :
    CallsIn F n Tryz.prog 145 #[.func (.yield l) #[] #[], .pointer (some ⟨Bw, 0, none⟩), .pointer (some ⟨Bs, 0, none⟩)] W fun e W' => (∃ v, e = .returned v) ∧
      ((∃ ys : List (Stp ms s), ys.map (·.1) = stepsW 0 ms s ∧ J ys W') ∨ (∃ pre : List (Stp ms s), pre.map (·.1) <+: stepsW 0 ms s ∧ Jx pre W')) := by
  obtain ⟨⟨A, na, c, h1, h2⟩, hst, hgl, hfew⟩ := h
  have hlen := h2.len
  have hna : na ≤ 1000 := by rw [← hlen]; exact hfew
  obtain ⟨_, _, c2⟩ := (h1.keep hb).cell3
  have H2 := hide h2
  have HY := hide hY
  have HJ := hide hJ
  have Hb0 := hide hb
  have Hlen := hide hlen
  clear h1 h2 hY hJ hb hlen
  refine callsIn_of_wp Tryz.func145 rfl hf ?_ hro
  simp only [Tryz.ntmps145, List.size_toArray, List.length_cons, List.length_nil, Nat.reduceAdd, Nat.reduceSub, Array.replicate_succ, Array.replicate_zero, List.push_toArray, List.append_toArray, List.nil_append, List.cons_append]
  gi_wp2
  clear c2
  gi_loopw [11] (fun i wr => ∃ (k : Nat) (pre : List (Stp ms s)), k ≤ na ∧ i = .int .i64 k ∧ pre.map (·.1) = stepsW 0 (ms.take k) s ∧ J pre wr ∧ KpS w0.heap.size Bs W wr) (fun i _ => na - (intOf i).toNat)
  case atStart => exact ⟨0, [], Nat.zero_le _, rfl, rfl, h0, Below.refl _ _, rfl⟩
  case round =>
    obtain ⟨k, pre, hk, rfl, hpre, hJs, hK⟩ := hrel
    have Hpre := hide hpre
    have HJs := hide hJs
    have HK := hide hK
    have hsz : W.heap.size ≤ wr.heap.size := hK.1.size
    have hBs1 : wr.cell? ⟨Bs, 0, none⟩ = some (.int .u32 s) := by
      rw [← hBs]
      unfold World.cell?
      rw [hK.2]
    clear hpre hJs hK
    by_cases hlt : k < na
    · obtain ⟨b, off, m, rfl, hm, hok, m0, m1, m2, m3⟩ := (H2.out.keep (Hb0.out.trans HK.out.1)).mop hlt
      have Htk := hide (stepsW_take (s := s) hm)
      obtain ⟨p1, p2, p3, p4, p5⟩ := hok
      have hcan := can_and hs p1
      have hor := or_andNot hs p3 p2
      have hgo : goW s m = lessW s m.del ||| m.add := rfl
      rw [← hgo] at hor
      clear hgo
      have Hm := hide hm
      clear hm
      rcases m with ⟨mp, ma, md, mc⟩
      simp only at m0 m1 m2 m3 p1 p2 p3 p4 p5 hor
      have hJ1 := HJ.out pre wr (wr.alloc (.cells #[.int .u32 mp, .int .u32 ma, .int .u32 md, .int .i64 mc] 220)) none HJs.out (World.grownBy_alloc _ _ _) (fun r e => by cases e)
      have hK1 : KpS w0.heap.size Bs W (wr.alloc (.cells #[.int .u32 mp, .int .u32 ma, .int .u32 md, .int .i64 mc] 220)) := ⟨HK.out.1.alloc (by have := Hb0.out.size; omega) _, (Below.heap_alloc _ _ _ (by omega)).trans HK.out.2⟩
      have hBs2 : (wr.alloc (.cells #[.int .u32 mp, .int .u32 ma, .int .u32 md, .int .i64 mc] 220)).cell? ⟨Bs, 0, none⟩ = some (.int .u32 s) := by
        rw [← hBs1]
        unfold World.cell?
        rw [Below.heap_alloc _ _ _ (show Bs < wr.heap.size by omega)]
      have HK1 := hide hK1
      have HJ1 := hide hJ1
      clear hJ1 hK1
      obtain ⟨t, ht⟩ : ∃ t, t = goW s ⟨mp, ma, md, mc⟩ := ⟨_, rfl⟩
      rw [← ht] at hor
      simp only [← ht] at Htk
      cases hc : canW s ⟨mp, ma, md, mc⟩ with
      | false =>
        rw [hc] at hcan Htk
        clear hc
        have Ht := hide ht
        clear ht
        gi_wp2
        refine ⟨fun _ h => (by cases h), ?_⟩
        gi_wp2
        go_roundw
        case rel => exact ⟨k + 1, pre, by omega, by go_num, by rw [Htk.out, Hpre.out]; simp, HJ1.out, HK1.out⟩
        case measure => simp [intOf]; omega
      | true =>
        rw [hc] at hcan Htk
        have hx : (k, mc, t) ∈ stepsW 0 ms s := by
          have h1 := (stepsW_take_pre ms (k + 1) s).subset (a := (k, mc, t))
          rw [Htk.out] at h1
          exact h1 (by simp)
        have hl : pre.length < (stepsW 0 ms s).length := by
          have h1 := (stepsW_take_pre ms (k + 1) s).length_le
          rw [Htk.out, ← Hpre.out] at h1
          simp at h1
          omega
        obtain ⟨fn, tmps, assign, body, hy, hR⟩ := HY.out pre ⟨(k, mc, t), hx⟩ _ HJ1.out hl
        have HR := hide hR
        simp only [encStp, stpV] at hy
        clear hR hc hl
        have Ht := hide ht
        clear ht
        gi_wp2
        refine HR.out.mono ?_
        rintro e W3 (⟨rfl, hJ3, hk3⟩ | ⟨rfl, hJx3⟩)
        · have HJ3 := hide hJ3
          have Hk3 := hide (kpS_t HK1.out hk3)
          clear hJ3 hk3
          gi_wp2
          go_roundw
          case rel => exact ⟨k + 1, _, by omega, by go_num, by rw [List.map_append, Htk.out, Hpre.out]; simp, HJ3.out, Hk3.out⟩
          case measure => simp [intOf]; omega
        · have HJ3 := hide hJx3
          clear hJx3
          gi_wp2
          refine bodyPost_ret (results_none rfl _ _ _) rfl ?_
          refine ⟨⟨_, rfl⟩, .inr ⟨_, ?_, HJ3.out⟩⟩
          have h1 := stepsW_take_pre ms (k + 1) s
          rw [Htk.out, ← Hpre.out] at h1
          simpa using h1
    · obtain rfl : k = na := by omega
      gi_wp2
      go_end0
      refine ⟨⟨_, rfl⟩, .inl ⟨pre, ?_, HJs.out⟩⟩
      rw [Hpre.out, List.take_of_length_le (by rw [Hlen.out]; omega)]
/-- the maker's value: the steps of the state, all in their order, or the first of them -/
theorem steps_stops (F : Fence) (n : Nat) (hf : F.fn 145) (hro : F.round = none) (hn : 1 ≤ n) (Bw Bs g s0 gl s : Nat) (ms : List Mk) (w0 w : World) (h : WordsR w0 g s0 gl ms) (hs : s < 4294967296)
    (hb : Below w0.heap.size w0 w) (hBw : w.cell? ⟨Bw, 0, none⟩ = some (.pointer (some ⟨g, 0, none⟩))) (hBs : w.cell? ⟨Bs, 0, none⟩ = some (.int .u32 s)) :
    SeqStopsK F n Tryz.prog 145 #[.pointer (some ⟨Bw, 0, none⟩), .pointer (some ⟨Bs, 0, none⟩)] (encStp (ms := ms) (s := s)) (KpS w0.heap.size Bs) (fun ys => ys.map (·.1) = stepsW 0 ms s) (fun pre => pre.map (·.1) <+: stepsW 0 ms s) (stepsW 0 ms s).length w := fun l J Jx W hW hJ _ hY h0 => by
  have l1 := World.block_lt_of_cell? w _ hBw
  have l2 := World.block_lt_of_cell? w _ hBs
  exact steps1_in F n hf hro hn l Bw Bs g s0 gl s ms w0 h hs J Jx hY W hJ (hb.trans (hW.mono hb.size)) ((hW.cell (p := ⟨Bw, 0, none⟩) l1).trans hBw) ((hW.cell (p := ⟨Bs, 0, none⟩) l2).trans hBs) (Nat.lt_of_lt_of_le l2 hW.size) h0
end Go.Proofs.YtmjiiddncbhgpaaGreat
