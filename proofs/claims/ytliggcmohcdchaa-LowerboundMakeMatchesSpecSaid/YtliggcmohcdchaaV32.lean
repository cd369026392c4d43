/- What the law of made tables' costs asks for, part 32: Ra. -/
import Derived.Test.YtliggcmohcdchaaV1
import Derived.Test.YtliggcmohcdchaaV2
import Derived.Test.YtliggcmohcdchaaV3
import Derived.Test.YtliggcmohcdchaaV4
import Derived.Test.YtliggcmohcdchaaV5
import Derived.Test.YtliggcmohcdchaaV16
import Derived.Test.YtliggcmohcdchaaV17
import Derived.Test.YtliggcmohcdchaaV28
import Derived.BigQuiet
import Derived.Deep.AppendLies
import Derived.Deep.DeepCutAuto
import Derived.Deep.Draws
import Derived.Deep.Fields
import Derived.Deep.LoopGhost
import Derived.Deep.QuietTactic
import Derived.Deep.RegionHeld3
import Derived.Deep.Slices
import Derived.Ground.Names2Prog
import Derived.Ground.SlgnProg
import Derived.Ground.SlsfProg
import Derived.IntWalk
import Derived.Laws.AppendOwnNone
import Derived.Laws.BitsAllLaws
import Derived.Laws.OwnMore
import Derived.Lib.Hide
import Derived.Lib.SlicesCompact
import Derived.Maps.AppendAt
import Derived.Shelf.Slices.Cells
import Derived.Shelf.Slices.Clone
import Derived.Shelf.Slices.CompactI
import Derived.Shelf.Slices.Empties
import Derived.Shelf.Slices.In.SortNone
import Derived.Shelf.Slices.SearchI
import Derived.Shelf.Sort.Plain
import Derived.Sort.OwnSortedInts
import Derived.Test.YtliggcmohcdchaaProg
import Derived.WalkKit
namespace Go.Proofs.Ytliggcmohcdchaa
set_option linter.unusedVariables false
set_option linter.unusedSimpArgs false
open Go.RowKit
theorem own_lowR {w : World} {B B' : Nat} {e : TypeId} {size n : Nat} {v : Value} {xs : List Value} (h : w.ownsRow B e size v n xs) (hB : B' ≤ B) : w.ownsRow B' e size v n xs := by
  refine ⟨h.1, ?_⟩
  rcases h.2 with h3 | ⟨r, cap, cur, e1, hr, hc, rest⟩
  · exact .inl h3
  · exact .inr ⟨r, cap, cur, e1, by omega, hc, rest⟩
def pickR (n : Nat) (f : Nat → Bool) : List Int := ((List.range n).filter f).map fun j : Nat => (j : Int)
theorem pickR_mem {n : Nat} {f : Nat → Bool} {x : Int} : x ∈ pickR n f ↔ ∃ p : Nat, p < n ∧ f p = true ∧ x = (p : Int) := by
  unfold pickR
  rw [List.mem_map]
  constructor
  · rintro ⟨p, hp, rfl⟩
    obtain ⟨h1, h2⟩ := List.mem_filter.1 hp
    exact ⟨p, List.mem_range.1 h1, h2, rfl⟩
  · rintro ⟨p, h1, h2, rfl⟩
    exact ⟨p, List.mem_filter.2 ⟨List.mem_range.2 h1, h2⟩, rfl⟩
theorem pickR_up (n : Nat) (f : Nat → Bool) : (pickR n f).Pairwise (· < ·) := by
  unfold pickR
  rw [List.pairwise_map]
  exact (List.pairwise_lt_range.sublist List.filter_sublist).imp fun {a b} h => by omega
theorem pickR_succ (n : Nat) (f : Nat → Bool) : pickR (n + 1) f = pickR n f ++ (if f n = true then [(n : Int)] else []) := by
  unfold pickR
  rw [List.range_succ, List.filter_append, List.map_append, List.filter_cons, List.filter_nil]
  split <;> rfl
def aftR (N : Nat) (o : Opr) (s : List Int) : List Int := pickR N fun p => hasB o.add (p : Int) || (hasB s (p : Int) && !hasB o.del (p : Int))
theorem aftR_upd {N : Nat} {o : Opr} (ho : OkOp N o) {s : List Int} (hs : setB N s = true) : aftR N o s = updF s o.add o.del := by
  refine up_ext (pickR_up _ _) (updF_up _ _ _) fun x => ?_
  rw [updF_mem]
  unfold aftR
  rw [pickR_mem]
  constructor
  · rintro ⟨p, h1, h2, rfl⟩
    rw [Bool.or_eq_true, Bool.and_eq_true, hasB_iff, hasB_iff, Bool.not_eq_true', ← Bool.not_eq_true, hasB_iff] at h2
    rcases h2 with h | h
    · exact .inr h
    · exact .inl h
  · intro h
    have hx : 0 ≤ x ∧ x < N := by
      rcases h with h | h
      · exact (setB_iff.1 hs).2 x h.1
      · exact (setB_iff.1 ho.add).2 x h
    refine ⟨x.toNat, by omega, ?_, by omega⟩
    rw [show ((x.toNat : Nat) : Int) = x by omega, Bool.or_eq_true, Bool.and_eq_true, hasB_iff, hasB_iff, Bool.not_eq_true', ← Bool.not_eq_true, hasB_iff]
    rcases h with h | h
    · exact .inr h
    · exact .inl h
set_option maxRecDepth 100000 in
set_option maxHeartbeats 3200000 in
theorem RApplies_ct (a : TA) (T : Tsk) (B : Option Addr) (m d : Nat) (l : List Int) (q : Nat) (w : World) (h : TkR w a T) (hl : Rd Enc.int w B m d l) (hq : q < a.nO) :
    Calls Try.prog 43 #[.agg #[.int .i64 T.facts, .slice a.I a.nI a.cI, .slice a.G a.nG a.cG, .slice a.O a.nO a.cO], .slice B m d, .int .i64 q] w (Gives w (.bool (subsetB (opAt T.ops q).pre l))) := by
  obtain ⟨I, nI, cI, G, nG, cG, O, nO, cO⟩ := a
  simp only at hq ⊢
  have H := hide h
  have Hl := hide hl
  obtain ⟨b1, off1, o, A1, n1, d1, A2, n2, d2, A3, n3, d3, rfl, hoq, g0, g1, g2, g3, r1, r2, r3, r4⟩ := h.ops.op hq
  have hb1 : b1 < w.heap.size := World.block_lt_of_cell? w _ g0
  have hgo := opAt_eq hoq
  have hlow := h.ops.low
  simp only at hlow
  have Hgo := hide hgo
  have R1 := hide r1
  have R2 := hide r2
  have R3_ := hide r3
  have K0 := hide g0
  have K1 := hide g1
  have K2 := hide g2
  have K3 := hide g3
  clear h hl hoq r1 r2 r3 r4 g0 g1 g2 g3 hgo
  have Hbl := hide (Below.refl w.heap.size w)
  go_enter Try.func43, Try.ntmps43
  go_upto_region 1 with (fail)
  obtain ⟨B0, hB0⟩ : ∃ B0, B0 = w.heap.size := ⟨_, rfl⟩
  have HB0 := hide hB0
  clear hB0
  have s_0 : B0 ≤ w.heap.size := Nat.le_trans (Nat.le_of_eq HB0.out) Hbl.out.size
  have hyt := Blk.new (w) 25 [.int .i64 T.facts, .slice I nI cI, .slice G nG cG, .slice (some ⟨b1, off1, none⟩) nO cO]
  have hbW : Below (w).heap.size (w) ((w).alloc (.cells #[.int .i64 T.facts, .slice I nI cI, .slice G nG cG, .slice (some ⟨b1, off1, none⟩) nO cO] 25)) := (Below.refl _ _).alloc (Nat.le_refl _) _
  obtain ⟨w0, hW⟩ : ∃ W, W = (w).alloc (.cells #[.int .i64 T.facts, .slice I nI cI, .slice G nG cG, .slice (some ⟨b1, off1, none⟩) nO cO] 25) := ⟨_, rfl⟩
  rw [← hW] at hyt hbW ⊢
  replace Hbl := hide (Hbl.out.trans (hbW.mono Hbl.out.size))
  have Ht := hide hyt
  clear hW hbW hyt
  generalize w.heap.size = gT at Ht s_0 ⊢
  have t0 := Ht.out.cell 0
  have t1 := Ht.out.cell 1
  have t2 := Ht.out.cell 2
  have t3 := Ht.out.cell 3
  have tl := Ht.out.lt
  simp only [List.getElem?_cons_zero, List.getElem?_cons_succ] at t0 t1 t2 t3
  have a_t : B0 ≤ gT := by omega
  clear s_0
  have k0 := ((olds Hbl.out).1 _ _ hb1).trans K0.out
  have k1 := ((olds Hbl.out).1 _ _ hb1).trans K1.out
  have k2 := ((olds Hbl.out).1 _ _ hb1).trans K2.out
  have k3 := ((olds Hbl.out).1 _ _ hb1).trans K3.out
  have hmk : ((q : Nat) : Int) < (nO : Int) := by omega
  go_wp2_with fail
  have hct := Subset_ct A1 B n1 d1 m d o.pre l w0 (R1.out.keep Hbl.out) (Hl.out.keep Hbl.out)
  with_reducible refine hct.mono ?_
  rintro e w1 ⟨rfl, hqt⟩
  have Hqt := hide hqt
  clear hct hqt
  go_wp2_with fail
  go_ret
  exact ⟨ret_bool (by rw [Hgo.out]), Hbl.out.trans (Hqt.out.below _)⟩
set_option maxRecDepth 100000 in
set_option maxHeartbeats 3200000 in
theorem RAfter_ct (a : TA) (T : Tsk) (N : Nat) (B : Option Addr) (m d : Nat) (l : List Int) (q : Nat) (w : World) (h : TkR w a T) (hf : T.facts = N) (hN : N ≤ 1000) (hl : Rd Enc.int w B m d l) (hq : q < a.nO) :
    Calls Try.prog 44 #[.agg #[.int .i64 T.facts, .slice a.I a.nI a.cI, .slice a.G a.nG a.cG, .slice a.O a.nO a.cO], .slice B m d, .int .i64 q] w (MadeI w (aftR N (opAt T.ops q) l)) := by
  obtain ⟨i1, hi1, hy0, hy1, hy2⟩ := info_parts intInfoT
  obtain ⟨I, nI, cI, G, nG, cG, O, nO, cO⟩ := a
  simp only at hq ⊢
  rw [hf]
  have H := hide h
  have Hl := hide hl
  obtain ⟨b1, off1, o, A1, n1, d1, A2, n2, d2, A3, n3, d3, rfl, hoq, g0, g1, g2, g3, r1, r2, r3, r4⟩ := h.ops.op hq
  have hb1 : b1 < w.heap.size := World.block_lt_of_cell? w _ g0
  have hgo := opAt_eq hoq
  have hlow := h.ops.low
  simp only at hlow
  have Hgo := hide hgo
  have R1 := hide r1
  have R2 := hide r2
  have R3_ := hide r3
  have K0 := hide g0
  have K1 := hide g1
  have K2 := hide g2
  have K3 := hide g3
  clear h hl hoq r1 r2 r3 r4 g0 g1 g2 g3 hgo
  have Hbl := hide (Below.refl w.heap.size w)
  go_enter Try.func44, Try.ntmps44
  go_upto_region 1 with (fail)
  obtain ⟨B0, hB0⟩ : ∃ B0, B0 = w.heap.size := ⟨_, rfl⟩
  have HB0 := hide hB0
  clear hB0
  have s_0 : B0 ≤ w.heap.size := Nat.le_trans (Nat.le_of_eq HB0.out) Hbl.out.size
  have hyt := Blk.new (w) 25 [.int .i64 N, .slice I nI cI, .slice G nG cG, .slice (some ⟨b1, off1, none⟩) nO cO]
  have hbW : Below (w).heap.size (w) ((w).alloc (.cells #[.int .i64 N, .slice I nI cI, .slice G nG cG, .slice (some ⟨b1, off1, none⟩) nO cO] 25)) := (Below.refl _ _).alloc (Nat.le_refl _) _
  obtain ⟨w0, hW⟩ : ∃ W, W = (w).alloc (.cells #[.int .i64 N, .slice I nI cI, .slice G nG cG, .slice (some ⟨b1, off1, none⟩) nO cO] 25) := ⟨_, rfl⟩
  rw [← hW] at hyt hbW ⊢
  replace Hbl := hide (Hbl.out.trans (hbW.mono Hbl.out.size))
  have Ht := hide hyt
  clear hW hbW hyt
  generalize w.heap.size = gT at Ht s_0 ⊢
  have t0 := Ht.out.cell 0
  have t1 := Ht.out.cell 1
  have t2 := Ht.out.cell 2
  have t3 := Ht.out.cell 3
  have tl := Ht.out.lt
  simp only [List.getElem?_cons_zero, List.getElem?_cons_succ] at t0 t1 t2 t3
  have a_t : B0 ≤ gT := by omega
  clear s_0
  go_wp2_with fail
  have hw0 := Hbl.out.size
  clear t0 t1 t2 t3 tl
  have hmk : ((q : Nat) : Int) < (nO : Int) := by omega
  go_loopw [7, 8] (fun ov i wr => ∃ (k : Nat) (O' : Option Addr) (r oc : Nat) (vs : List Value), k ≤ N ∧ i = .int .i64 k ∧ ov = .slice O' r oc ∧ OwnE Enc.int 3 w0.heap.size (fun b => w0.heap.size ≤ b) wr O' r oc vs (pickR k fun p => hasB o.add (p : Int) || (hasB l (p : Int) && !hasB o.del (p : Int))) ∧ Below w0.heap.size w0 wr) (fun _ i _ => N - (intOf i).toNat)
  case atStart => exact ⟨0, none, 0, 0, [], by omega, rfl, rfl, OwnE.nil _ _ _ _ _, Below.refl _ _⟩
  case round =>
    obtain ⟨k, O', r, oc, vs, hk, rfl, rfl, hown, hb⟩ := hrel
    have hqk : r ≤ k := by
      rw [← hown.len]
      unfold pickR
      rw [List.length_map]
      exact Nat.le_trans (List.length_filter_le _ _) (by simp)
    replace Ht := hide (Ht.out.keep hb)
    replace Hbl := hide (Hbl.out.trans (hb.mono Hbl.out.size))
    have Hown := hide hown
    have Hb := hide hb
    clear hown hb
    have t0 := Ht.out.cell 0
    have t1 := Ht.out.cell 1
    have t2 := Ht.out.cell 2
    have t3 := Ht.out.cell 3
    have tl := Ht.out.lt
    simp only [List.getElem?_cons_zero, List.getElem?_cons_succ] at t0 t1 t2 t3
    have k0 := ((olds Hbl.out).1 _ _ hb1).trans K0.out
    have k1 := ((olds Hbl.out).1 _ _ hb1).trans K1.out
    have k2 := ((olds Hbl.out).1 _ _ hb1).trans K2.out
    have k3 := ((olds Hbl.out).1 _ _ hb1).trans K3.out
    by_cases hlt : k < N
    · have hki : (k : Int) < (N : Int) := by omega
      have hps := pickR_succ k fun p => hasB o.add (p : Int) || (hasB l (p : Int) && !hasB o.del (p : Int))
      have c1 := Has_ct A2 n2 d2 o.add (k : Int) wr (R2.out.keep Hbl.out)
      have c2 := Has_ct B m d l (k : Int) wr (Hl.out.keep Hbl.out)
      have c3 := Has_ct A3 n3 d3 o.del (k : Int) wr (R3_.out.keep Hbl.out)
      obtain ⟨v1, hv1⟩ : ∃ z, z = hasB o.add (k : Int) := ⟨_, rfl⟩
      obtain ⟨v2, hv2⟩ : ∃ z, z = hasB l (k : Int) := ⟨_, rfl⟩
      obtain ⟨v3, hv3⟩ : ∃ z, z = hasB o.del (k : Int) := ⟨_, rfl⟩
      rw [← hv1] at c1
      rw [← hv2] at c2
      rw [← hv3] at c3
      simp only [← hv1, ← hv2, ← hv3] at hps
      have Hps := hide hps
      have C1 := hide c1
      have C2 := hide c2
      have C3 := hide c3
      have hsz1 := Hb.out.size
      clear hps c1 c2 c3 hv1 hv2 hv3
      cases v1 <;> cases v2 <;> cases v3
      · go_wp2_with (first
          | (go_at_call 75; (first | (with_reducible refine C1.out.mono ?_) | (with_reducible refine C2.out.mono ?_) | (with_reducible refine C3.out.mono ?_)); rintro e w5 ⟨rfl, rfl⟩))
        go_roundw
        case rel => exact ⟨k + 1, O', r, oc, vs, by omega, by go_num, rfl, by rw [Hps.out]; simpa using Hown.out, Hb.out⟩
        case measure => simp [intOf]; omega
      · go_wp2_with (first
          | (go_at_call 75; (first | (with_reducible refine C1.out.mono ?_) | (with_reducible refine C2.out.mono ?_) | (with_reducible refine C3.out.mono ?_)); rintro e w5 ⟨rfl, rfl⟩))
        go_roundw
        case rel => exact ⟨k + 1, O', r, oc, vs, by omega, by go_num, rfl, by rw [Hps.out]; simpa using Hown.out, Hb.out⟩
        case measure => simp [intOf]; omega
      · go_wp2_with (first
          | (go_at_call 75; (first | (with_reducible refine C1.out.mono ?_) | (with_reducible refine C2.out.mono ?_) | (with_reducible refine C3.out.mono ?_)); rintro e w5 ⟨rfl, rfl⟩)
          | (at_builtin
             refine wpList_pushE rfl _ _ 22 rfl w0.heap.size 3 i1 (.int .i64 0) 8 Try.underlying22 hi1 hy0 hy1 hy2 rfl (by decide) rfl Hown.out (fun r hr => (Hown.out.base hr).1) [.int .i64 k] k (by intro u hu; simp at hu; subst hu; rfl) rfl (firm_int (by omega) (by omega)) (by omega) (by omega) hsz1 ?_
             intro O6 oc6 w6 hown6 hch6 hat6
             have hown6 := hown6.less (M' := fun b => w0.heap.size ≤ b) (fun i _ e => .inl e)
             have hb6 := row_below Hb.out hsz1 hch6 (fun r hr => (Hown.out.base hr).1)
             have Hown6 := hide hown6
             have Hb6 := hide hb6
             clear hown6 hch6 hat6 hb6))
        go_roundw
        case rel => exact ⟨k + 1, O6, r + 1, oc6, _, by omega, by go_num, rfl, by rw [Hps.out]; simpa using Hown6.out, Hb6.out⟩
        case measure => simp [intOf]; omega
      · go_wp2_with (first
          | (go_at_call 75; (first | (with_reducible refine C1.out.mono ?_) | (with_reducible refine C2.out.mono ?_) | (with_reducible refine C3.out.mono ?_)); rintro e w5 ⟨rfl, rfl⟩))
        go_roundw
        case rel => exact ⟨k + 1, O', r, oc, vs, by omega, by go_num, rfl, by rw [Hps.out]; simpa using Hown.out, Hb.out⟩
        case measure => simp [intOf]; omega
      · go_wp2_with (first
          | (go_at_call 75; (first | (with_reducible refine C1.out.mono ?_) | (with_reducible refine C2.out.mono ?_) | (with_reducible refine C3.out.mono ?_)); rintro e w5 ⟨rfl, rfl⟩)
          | (at_builtin
             refine wpList_pushE rfl _ _ 22 rfl w0.heap.size 3 i1 (.int .i64 0) 8 Try.underlying22 hi1 hy0 hy1 hy2 rfl (by decide) rfl Hown.out (fun r hr => (Hown.out.base hr).1) [.int .i64 k] k (by intro u hu; simp at hu; subst hu; rfl) rfl (firm_int (by omega) (by omega)) (by omega) (by omega) hsz1 ?_
             intro O6 oc6 w6 hown6 hch6 hat6
             have hown6 := hown6.less (M' := fun b => w0.heap.size ≤ b) (fun i _ e => .inl e)
             have hb6 := row_below Hb.out hsz1 hch6 (fun r hr => (Hown.out.base hr).1)
             have Hown6 := hide hown6
             have Hb6 := hide hb6
             clear hown6 hch6 hat6 hb6))
        go_roundw
        case rel => exact ⟨k + 1, O6, r + 1, oc6, _, by omega, by go_num, rfl, by rw [Hps.out]; simpa using Hown6.out, Hb6.out⟩
        case measure => simp [intOf]; omega
      · go_wp2_with (first
          | (go_at_call 75; (first | (with_reducible refine C1.out.mono ?_) | (with_reducible refine C2.out.mono ?_) | (with_reducible refine C3.out.mono ?_)); rintro e w5 ⟨rfl, rfl⟩)
          | (at_builtin
             refine wpList_pushE rfl _ _ 22 rfl w0.heap.size 3 i1 (.int .i64 0) 8 Try.underlying22 hi1 hy0 hy1 hy2 rfl (by decide) rfl Hown.out (fun r hr => (Hown.out.base hr).1) [.int .i64 k] k (by intro u hu; simp at hu; subst hu; rfl) rfl (firm_int (by omega) (by omega)) (by omega) (by omega) hsz1 ?_
             intro O6 oc6 w6 hown6 hch6 hat6
             have hown6 := hown6.less (M' := fun b => w0.heap.size ≤ b) (fun i _ e => .inl e)
             have hb6 := row_below Hb.out hsz1 hch6 (fun r hr => (Hown.out.base hr).1)
             have Hown6 := hide hown6
             have Hb6 := hide hb6
             clear hown6 hch6 hat6 hb6))
        go_roundw
        case rel => exact ⟨k + 1, O6, r + 1, oc6, _, by omega, by go_num, rfl, by rw [Hps.out]; simpa using Hown6.out, Hb6.out⟩
        case measure => simp [intOf]; omega
      · go_wp2_with (first
          | (go_at_call 75; (first | (with_reducible refine C1.out.mono ?_) | (with_reducible refine C2.out.mono ?_) | (with_reducible refine C3.out.mono ?_)); rintro e w5 ⟨rfl, rfl⟩)
          | (at_builtin
             refine wpList_pushE rfl _ _ 22 rfl w0.heap.size 3 i1 (.int .i64 0) 8 Try.underlying22 hi1 hy0 hy1 hy2 rfl (by decide) rfl Hown.out (fun r hr => (Hown.out.base hr).1) [.int .i64 k] k (by intro u hu; simp at hu; subst hu; rfl) rfl (firm_int (by omega) (by omega)) (by omega) (by omega) hsz1 ?_
             intro O6 oc6 w6 hown6 hch6 hat6
             have hown6 := hown6.less (M' := fun b => w0.heap.size ≤ b) (fun i _ e => .inl e)
             have hb6 := row_below Hb.out hsz1 hch6 (fun r hr => (Hown.out.base hr).1)
             have Hown6 := hide hown6
             have Hb6 := hide hb6
             clear hown6 hch6 hat6 hb6))
        go_roundw
        case rel => exact ⟨k + 1, O6, r + 1, oc6, _, by omega, by go_num, rfl, by rw [Hps.out]; simpa using Hown6.out, Hb6.out⟩
        case measure => simp [intOf]; omega
      · go_wp2_with (first
          | (go_at_call 75; (first | (with_reducible refine C1.out.mono ?_) | (with_reducible refine C2.out.mono ?_) | (with_reducible refine C3.out.mono ?_)); rintro e w5 ⟨rfl, rfl⟩)
          | (at_builtin
             refine wpList_pushE rfl _ _ 22 rfl w0.heap.size 3 i1 (.int .i64 0) 8 Try.underlying22 hi1 hy0 hy1 hy2 rfl (by decide) rfl Hown.out (fun r hr => (Hown.out.base hr).1) [.int .i64 k] k (by intro u hu; simp at hu; subst hu; rfl) rfl (firm_int (by omega) (by omega)) (by omega) (by omega) hsz1 ?_
             intro O6 oc6 w6 hown6 hch6 hat6
             have hown6 := hown6.less (M' := fun b => w0.heap.size ≤ b) (fun i _ e => .inl e)
             have hb6 := row_below Hb.out hsz1 hch6 (fun r hr => (Hown.out.base hr).1)
             have Hown6 := hide hown6
             have Hb6 := hide hb6
             clear hown6 hch6 hat6 hb6))
        go_roundw
        case rel => exact ⟨k + 1, O6, r + 1, oc6, _, by omega, by go_num, rfl, by rw [Hps.out]; simpa using Hown6.out, Hb6.out⟩
        case measure => simp [intOf]; omega
    · obtain rfl : N = k := by omega
      have hsz9 : w.heap.size ≤ w0.heap.size := hw0
      have hints := own_lowR Hown.out.ints hsz9
      have hql := Hown.out.len
      have Hints := hide hints
      have Hq := hide hql
      clear hints hql
      go_wp2_with fail
      go_ret
      rw [Hgo.out]
      refine ⟨Hbl.out, O', oc, ?_, ?_⟩
      · unfold aftR
        rw [Hq.out]
        rfl
      · unfold aftR
        rw [Hq.out]
        exact Hints.out
end Go.Proofs.Ytliggcmohcdchaa
