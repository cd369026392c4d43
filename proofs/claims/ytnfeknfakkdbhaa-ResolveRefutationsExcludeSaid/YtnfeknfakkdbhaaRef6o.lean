/- The reference's Refutes. -/
import Derived.Test.YtnfeknfakkdbhaaRef6n
import Derived.Test.YtnfeknfakkdbhaaGrow
import Derived.IntWalk
namespace Go.Proofs.Ytnfeknfakkdbhaa
set_option linter.unusedVariables false
set_option linter.unusedSimpArgs false
open Go.RowKit

theorem negs_take {c : List Int} {q : Nat} {x : Int} (h : c[q]? = some x) : negs (c.take (q + 1)) = negs (c.take q) ++ [-x] := by
  unfold negs
  rw [List.take_add_one, h, List.map_append]
  rfl
theorem negs_len (c : List Int) : (negs c).length = c.length := by simp [negs]
theorem refFrom_stop {V : Nat} {cs L : List (List Int)} {C : List Int} {k : List Int} (h : units cs (V + 2) (negs C) = some (some k)) : refFrom V cs (C :: L) = false := by
  rw [refFrom, h]
  rfl
theorem refFrom_go {V : Nat} {cs L : List (List Int)} {C : List Int} (h : units cs (V + 2) (negs C) = some none) : refFrom V cs (C :: L) = refFrom V (cs ++ [C]) L := by
  rw [refFrom, h]
  rfl
theorem clean_len {V : Nat} {c : List Int} (h : Clean V c) : c.length ≤ V := by
  have := rise_len (v := (V : Int)) (c := c) (lo := 0) (by omega) (fun x hx => by have := (h.1 x hx).var; omega) h.2
  omega
set_option maxRecDepth 100000 in
set_option maxHeartbeats 3200000 in
theorem Refutes_ct (V : Nat) (A : Option Addr) (n c : Nat) (cs : List (List Int)) (B : Option Addr) (m d : Nat) (L : List (List Int)) (w : World) (hV : V ≤ 1000) (h : Rd (Enc.sl Enc.int) w A n c cs) (hn : n ≤ 1000000) (hl : Rd (Enc.sl Enc.int) w B m d L) (hm : m ≤ 1000000)
    (hcl : ∀ c ∈ cs, Clean V c) (hL : ∀ c ∈ L, Clean V c) :
    Calls Try.prog 34 #[.agg #[.int .i64 V, .slice A n c], .slice B m d] w (Gives w (.bool (refutesR V cs L))) := by
  obtain ⟨i0, hi0, hz0, hz1, hz2⟩ := info_parts sliceInfo3
  obtain ⟨i1, hi1, hy0, hy1, hy2⟩ := info_parts Try.intInfo
  have hb0 := Blk.new w 51 [.int .i64 V, .slice A n c]
  have hbl0 : Below w.heap.size w (w.alloc (.cells #[.int .i64 V, .slice A n c] 51)) := (Below.refl _ _).alloc (Nat.le_refl _) _
  have Hb0 := hide hb0
  have Hbl0 := hide hbl0
  have Hrd := hide h
  have Hrl := hide hl
  have Hln := hide h.len
  have Hlm := hide hl.len
  have Hcl := hide hcl
  have HL := hide hL
  clear h hl hb0 hbl0 hcl hL
  go_enter Try.func34, Try.ntmps34
  go_wp2_with
    (at_builtin
     refine wpList_appendE rfl _ _ 40 rfl w.heap.size 22 i0 (.slice none 0 0) 24 Try.underlying40 hi0 hz0 hz1 hz2 rfl (by decide) (fun _ _ _ h => one_sl h) rfl (OwnE.nil (Enc.sl Enc.int) _ _ (fun b => w.heap.size ≤ b) _) (fun r h => by cases h) Hrd.out Hbl0.out (fun us y hok _ => firm_old hok Hbl0.out (fun i hi => hi)) rfl (by omega) (by omega) Hbl0.out.size ?_
     intro O oc w1 vs1 hown hch hat
     rw [List.nil_append, Nat.zero_add] at hown
     have hbl := Hbl0.out.trans (hch.below (fun i e => by cases e) Hbl0.out.size)
     have hown := hown.less (M' := fun b => w.heap.size ≤ b) (fun i _ e => .inl e)
     have hbx := hch.blk Hb0.out (fun e => by cases e)
     have Hown := hide hown
     have Hbl := hide hbl
     have Hbx := hide hbx
     clear hown hch hat hbl hbx)
  try simp only [Nat.zero_add]
  go_loopw [5, 6] (fun o i wr => ∃ (k : Nat) (O : Option Addr) (oc : Nat) (vs : List Value), k ≤ m ∧ i = .int .i64 k ∧ o = .slice O (n + k) oc ∧ OwnE (Enc.sl Enc.int) 22 w.heap.size (fun b => w.heap.size ≤ b) wr O (n + k) oc vs (cs ++ L.take k) ∧ Below w.heap.size w wr ∧
    refFrom V cs L = refFrom V (cs ++ L.take k) (L.drop k)) (fun _ i _ => m - (intOf i).toNat)
  case atStart => exact ⟨0, O, oc, vs1, by omega, rfl, rfl, by simpa using Hown.out, Hbl.out, by simp⟩
  case round =>
    clear Hown Hbl Hbx Hb0 Hbl0
    obtain ⟨k, O, oc, vs, hk, rfl, rfl, hown, hbr, hrel⟩ := hrel
    have Hown := hide hown
    have Hbr := hide hbr
    have hrl := Hrl.out.keep hbr
    have Hrel := hide hrel
    have hsz := hbr.size
    clear hown hbr hrel
    by_cases hlt : k < m
    · obtain ⟨b, off, C, A', n', c', rfl, hC, hcell0, hrC0⟩ := Hrl.out.sl hlt
      have hcell := (Hbr.out.cell (p := ⟨b, off + k, none⟩) (World.block_lt_of_cell? w _ hcell0)).trans hcell0
      have hrC := hrC0.keep Hbr.out
      have HrC0 := hide hrC0
      clear hcell0 hrC0
      have hCL := List.mem_of_getElem? hC
      have hCc := HL.out C hCL
      have hCn := hrC.low
      have HC := hide hC
      have HrC := hide hrC
      have HCc := hide hCc
      have HCl := hide hrC.len
      have hn63 : n' ≤ 1000 := by
        have := clean_len hCc
        have := hrC.len
        omega
      clear hC hrC hCc hrl
      go_wp2_with fail
      obtain ⟨wq, rfl⟩ : ∃ V, V = wr := ⟨_, rfl⟩
      go_loopw [7, 8] (fun o i wr => ∃ (q : Nat) (O2 : Option Addr) (oc2 : Nat) (vs2 : List Value), q ≤ n' ∧ i = .int .i64 q ∧ o = .slice O2 q oc2 ∧ OwnE Enc.int 3 wq.heap.size (fun b => wq.heap.size ≤ b) wr O2 q oc2 vs2 (negs (C.take q)) ∧ Below wq.heap.size wq wr) (fun _ i _ => n' - (intOf i).toNat)
      case atStart => exact ⟨0, none, 0, [], by omega, rfl, rfl, OwnE.nil _ _ _ _ _, Below.refl _ _⟩
      case round =>
        obtain ⟨q, O2, oc2, vs2, hq, rfl, rfl, hown2, hb2⟩ := hrel
        have hcell2 := (hb2.cell (p := ⟨b, off + k, none⟩) (World.block_lt_of_cell? wq _ hcell)).trans hcell
        have hsz2 := hb2.size
        have hrC2 := HrC.out.keep hb2
        have Hown2 := hide hown2
        have Hb2 := hide hb2
        clear hown2 hb2
        by_cases hlt2 : q < n'
        · obtain ⟨b2, off2, x, rfl, hx, hx1, hx2, hcx⟩ := hrC2.int hlt2
          have hxf := HCc.out.1 x (List.mem_of_getElem? hx)
          have hxv : -1000 ≤ x ∧ x ≤ 1000 := by unfold Fits at hxf; omega
          have hwx : IntKind.i64.wrap (-x) = -x := by rw [IntWalk.i64_in _ (by omega)]
          have hnt := negs_take hx
          have Hnt := hide hnt
          clear hxf hx hnt hrC2
          go_wp2_with
            (at_builtin
             refine wpList_pushE rfl _ _ 22 rfl wq.heap.size 3 i1 (.int .i64 0) 8 Try.underlying22 hi1 hy0 hy1 hy2 rfl (by decide) rfl Hown2.out (fun r hr => (Hown2.out.base hr).1) [.int .i64 (-x)] (-x) (by intro u hu; simp at hu; subst hu; rfl) rfl (firm_int (by omega) (by omega)) (by omega) (by omega) hsz2 ?_
             intro O6 oc6 w6 hown6 hch6 hat6
             have hown6 := hown6.less (M' := fun b => wq.heap.size ≤ b) (fun i _ e => .inl e)
             have hb6 := row_below Hb2.out hsz2 hch6 (fun r hr => (Hown2.out.base hr).1)
             rw [← Hnt.out] at hown6
             have Hown6 := hide hown6
             have Hb6 := hide hb6
             clear hown6 hch6 hat6 hb6)
          go_roundw
          case rel => exact ⟨q + 1, O6, oc6, _, by omega, by go_num, rfl, Hown6.out, Hb6.out⟩
          case measure => simp [intOf]; omega
        · obtain rfl : q = n' := by omega
          go_wp2_with fail
          have hcs2 : ∀ c ∈ cs ++ L.take k, Clean V c := fun c hc => by
            rcases List.mem_append.1 hc with hc | hc
            · exact Hcl.out c hc
            · exact HL.out c (List.mem_of_mem_take hc)
          obtain ⟨r, r1, r2⟩ := units_clash hcs2 (negs_clean HCc.out)
          have hct := Units_ct V O (n + k) oc (cs ++ L.take k) hV (fun l hl x hx => (hcs2 l hl).1 x hx) (V + 2) O2 q oc2 (negs C) r wr ((Hown.out.keep Hb2.out).rd) (by have := Hown2.out.rd; rwa [List.take_of_length_le (by rw [HCl.out]; omega)] at this) (by omega) r1
          have Hr1 := hide r1
          clear hcs2 r1 r2
          with_reducible refine hct.mono ?_
          clear hct
          rintro e w2 ⟨hb3, hres⟩
          have Hb3 := hide (Hb2.out.trans (hb3.mono hsz2))
          have hcell3 := (Hb3.out.cell (p := ⟨b, off + k, none⟩) (World.block_lt_of_cell? wq _ hcell)).trans hcell
          clear hb3 hcell2
          cases r with
          | some r =>
            obtain ⟨l, A3, n3, c3, _, rfl, _⟩ := hres.resolve_left (fun h => by cases h.1)
            clear hres
            go_wp2_with fail
            go_ret
            refine ⟨?_, Hbr.out.trans (Hb3.out.mono hsz)⟩
            unfold refutesR
            rw [Hrel.out, drop_cons HC.out, refFrom_stop Hr1.out]
            rfl
          | none =>
            obtain ⟨_, rfl⟩ := hres.resolve_right (fun ⟨_, _, _, _, h, _⟩ => by cases h)
            clear hres
            have hown3 := Hown.out.keep Hb3.out
            have Hown3 := hide hown3
            have hsz3 := (Hbr.out.trans (Hb3.out.mono hsz)).size
            have Hbw3 := hide (Hbr.out.trans (Hb3.out.mono hsz))
            have hsp : (cs ++ L.take k) ++ [C] = cs ++ L.take (k + 1) := by rw [List.take_add_one, HC.out, List.append_assoc]; rfl
            have Hsp := hide hsp
            clear hown3 hsp
            go_wp2_with
              (at_builtin
               refine wpList_pushE rfl _ _ 40 rfl w.heap.size 22 i0 (.slice none 0 0) 24 Try.underlying40 hi0 hz0 hz1 hz2 rfl (by decide) rfl Hown3.out (fun r hr => (Hown3.out.base hr).1) [.slice A' q c'] C (by intro u hu; simp at hu; subst hu; rfl) rfl (firm_old ⟨A', q, c', rfl, HrC0.out⟩ Hbw3.out (fun i hi => hi)) (by omega) (by omega) hsz3 ?_
               intro O6 oc6 w6 hown6 hch6 hat6
               have hown6 := hown6.less (M' := fun b => w.heap.size ≤ b) (fun i _ e => .inl e)
               have hb6 := row_below Hbw3.out hsz3 hch6 (fun r hr => (Hown3.out.base hr).1)
               rw [Hsp.out] at hown6
               have Hown6 := hide hown6
               have Hb6 := hide hb6
               clear hown6 hch6 hat6 hb6)
            go_roundw
            case rel => exact ⟨k + 1, O6, oc6, _, by omega, by go_num, rfl, Hown6.out, Hb6.out, by rw [Hrel.out, drop_cons HC.out, refFrom_go Hr1.out, Hsp.out]⟩
            case measure => simp [intOf]; omega
    · obtain rfl : k = m := by omega
      have hres : refutesR V cs L = lastNil L := by
        unfold refutesR
        rw [Hrel.out, List.drop_of_length_le (by rw [Hlm.out]; omega), refFrom, Bool.true_and]
      have Hres := hide hres
      clear hres
      cases k with
      | zero =>
        go_wp2_with fail
        go_ret
        refine ⟨?_, Hbr.out⟩
        rw [Hres.out, List.eq_nil_of_length_eq_zero Hlm.out]
        rfl
      | succ j =>
        obtain ⟨b, off, C, A', n', c', rfl, hC, hcell0, hrC0⟩ := Hrl.out.sl (show j < j + 1 by omega)
        have hcell := (Hbr.out.cell (p := ⟨b, off + j, none⟩) (World.block_lt_of_cell? w _ hcell0)).trans hcell0
        have hlast : lastNil L = decide (n' = 0) := by
          unfold lastNil
          have : L.getLast? = some C := by rw [List.getLast?_eq_getElem?, Hlm.out]; exact hC
          rw [this]
          have := hrC0.len
          cases C with
          | nil => simp at this; simp [← this]
          | cons x C => simp at this; rw [decide_eq_false (by omega)]
        have Hlast := hide hlast
        clear hcell0 hrC0 hC hlast hrl
        go_wp2_with fail
        go_ret
        refine ⟨?_, Hbr.out⟩
        rw [Hres.out, Hlast.out]
        refine ret_bool ?_
        rw [Bool.eq_iff_iff, beq_iff_eq, decide_eq_true_iff]
        omega
end Go.Proofs.Ytnfeknfakkdbhaa
