/- The check of refutations. -/
import Derived.Test.YtnfeknfakkdbhaaRs13
import Derived.Test.YtnfeknfakkdbhaaRef6o
namespace Go.Proofs.Ytnfeknfakkdbhaa
set_option linter.unusedVariables false
set_option linter.unusedSimpArgs false
open Go.RowKit

/-- what Check answers -/
def checkR (v : Int) (cs L : List (List Int)) : Bool × Int × Int :=
  if (cnfFault v cs).1 ≠ 0 then (false, cnfFault v cs) else if 4000 < L.length then (false, 2, -2) else if (faultFrom v 0 L).1 ≠ 0 then (false, faultFrom v 0 L) else (checkB v.toNat cs L, 0, 0)
theorem Clause_ct (A : Option Addr) (n c : Nat) (v : Int) (xs : List Int) (w : World) (h : Rd Enc.int w A n c xs) (hv : 0 ≤ v) (hv' : v < 9223372036854775807) :
    Calls Try.prog 73 #[.slice A n c, .int .i64 v] w (Quiet w (.int .i64 (clauseCode v none xs))) := by
  go_enter Try.func73, Try.ntmps73
  go_wp2_with fail
  refine (clause_ct A n c v xs _ h hv hv').mono ?_
  rintro e w1 ⟨rfl, hq⟩
  go_wp2_with fail
  go_ret
  exact ⟨rfl, hq⟩
theorem clone_own {w0 w w1 : World} {n : Nat} {cs : List (List Int)} {e : Ending} (h : CloneQ w0 w n cs e w1) (hb0 : Below w0.heap.size w0 w) :
    ∃ (O : Option Addr) (oc : Nat) (vs : List Value), e = .returned (.slice O n oc) ∧ Below w.heap.size w w1 ∧ (cs.length = n → OwnE (Enc.sl Enc.int) 22 w.heap.size (fun b => w.heap.size ≤ b) w1 O n oc vs cs) := by
  obtain ⟨O, oc, rfl, hb, xs, hown, hxs⟩ := h
  have hs := hb0.size
  refine ⟨O, oc, xs, rfl, hb, fun hl => ⟨hown, hl, fun i x hx => ?_⟩⟩
  obtain ⟨A', n', c', e1, e2⟩ := hxs i x hx
  refine ⟨[.slice A' n' c'], fun j v hj => ?_, firm_old (w0 := w0) ⟨A', n', c', rfl, e2⟩ (hb0.trans (hb.mono hs)) (fun i hi => by omega)⟩
  cases j with
  | zero =>
    simp at hj
    subst hj
    simpa [Enc.sl] using e1
  | succ j => simp at hj
theorem chkFrom_stop {V : Nat} {cs L : List (List Int)} {C vals r : List Int} (h1 : assume (List.replicate (V + 1) 0) (negs C) = some vals) (h : close cs (V + 2) vals = some r) : chkFrom V cs (C :: L) = false := by
  rw [chkFrom, h1]
  simp only
  rw [h]
  rfl
theorem chkFrom_go {V : Nat} {cs L : List (List Int)} {C vals : List Int} (h1 : assume (List.replicate (V + 1) 0) (negs C) = some vals) (h : close cs (V + 2) vals = none) : chkFrom V cs (C :: L) = chkFrom V (cs ++ [C]) L := by
  rw [chkFrom, h1]
  simp only
  rw [h]
  rfl
set_option maxRecDepth 100000 in
set_option maxHeartbeats 6400000 in
theorem Check_ct (v : Int) (A : Option Addr) (n c : Nat) (cs : List (List Int)) (B : Option Addr) (m d : Nat) (L : List (List Int)) (w : World) (hv1 : -9223372036854775808 ≤ v) (hv2 : v ≤ 9223372036854775807) (h : Rd (Enc.sl Enc.int) w A n c cs) (hA : ∀ ad, A = some ad → ∃ b off, ad = ⟨b, off, none⟩) (hl : Rd (Enc.sl Enc.int) w B m d L) :
    Calls Try.prog 35 #[.agg #[.int .i64 v, .slice A n c], .slice B m d] w (Gives w (holdsV (checkR v cs L))) := by
  have hsm := hl.low
  have hbw := below_two w (.cells #[.int .i64 v, .slice A n c] 51) (.cells #[.int .i64 0, .int .i64 0] 29)
  have HX := hide (Bx2.new w 51 29 (.int .i64 v) (.slice A n c) (.int .i64 0) (.int .i64 0))
  have h2 := h.keep hbw
  have H2 := hide h2
  have Hb := hide hbw
  have Hl := hide hl
  have Hlm := hide hl.len
  have Hln := hide h.len
  have H := hide h
  have HA := hide hA
  clear hbw h2 hl h hA
  rcases hcf : cnfFault v cs with ⟨ec, ei⟩
  have Hcf := hide hcf
  clear hcf
  by_cases hec : ec = 0
  · have hz := cnfFault_zero (v := v) (cs := cs) (by rw [Hcf.out]; exact hec)
    rw [Hcf.out] at hz
    injection hz with hz1 hz2
    subst hz1 hz2
    have hok := (cnfFault_ok (v := v) (cs := cs)).1 (by rw [Hcf.out])
    obtain ⟨V, rfl⟩ : ∃ V : Nat, v = (V : Int) := ⟨v.toNat, by omega⟩
    have hV : V ≤ 80 := by omega
    have hn : n ≤ 1500 := by have := hok.2.1; rw [Hln.out] at this; exact this
    have Hcl := hide (fun c hc => clean_of_code (hok.2.2 c hc))
    clear hok
    by_cases hm : 4000 < m
    · have hr : checkR V cs L = (false, 2, -2) := by rw [checkR, Hcf.out, if_neg (by simp), if_pos (by rw [Hlm.out]; exact hm)]
      rw [hr]
      clear hr
      go_enter Try.func35, Try.ntmps35
      go_wp2_with fail
      refine (Validate_at Hcf.out _ _ _ _ hv1 hv2 (by exact H2.out)).mono ?_
      rintro e w1 ⟨rfl, hb1⟩
      obtain ⟨hc1, hc2, hd1, hd2, hf1, hf2, hg0, hg1⟩ := (HX.out.keep hb1).facts
      have Hbb := hide (Hb.out.trans (hb1.mono Hb.out.size))
      clear hb1 HX Hb
      go_wp2_with fail
      refine bodyPost_ret (v := holdsV (false, 2, -2)) (by simp [results, Try.results35, go_sem, holdsV, hd1, hd2, hg1]) rfl ⟨rfl, ?_⟩
      exact below_res2_alloc Hbb.out (show w.heap.size ≤ w1.heap.size by omega) (show w.heap.size ≤ w.heap.size + 1 by omega) _ _ _
    · have hr : checkR V cs L = if (faultFrom V 0 L).1 ≠ 0 then (false, faultFrom V 0 L) else (checkB V cs L, 0, 0) := by rw [checkR, Hcf.out, if_neg (by simp), if_neg (by rw [Hlm.out]; exact hm), Int.toNat_natCast]
      have Hr := hide hr
      clear hr
      go_enter Try.func35, Try.ntmps35
      go_wp2_with fail
      refine (Validate_at Hcf.out _ _ _ _ hv1 hv2 (by exact H2.out)).mono ?_
      rintro e w1 ⟨rfl, hb1⟩
      obtain ⟨hc1, hc2, hd1, hd2, hf1, hf2, hg0, hg1⟩ := (HX.out.keep hb1).facts
      have HX1 := hide (HX.out.keep hb1)
      have Hbb := hide (Hb.out.trans (hb1.mono Hb.out.size))
      clear hb1 HX Hb
      go_wp2_with fail
      have hb2 := ((Below.refl w1.heap.size w1).alloc (Nat.le_refl _) (.cells #[.int .i64 0, .int .i64 0] 29))
      obtain ⟨w2, hw2⟩ : ∃ w2, w2 = w1.alloc (.cells #[.int .i64 0, .int .i64 0] 29) := ⟨_, rfl⟩
      rw [← hw2] at hb2 ⊢
      have HX2 := hide (HX1.out.keep hb2)
      have Hb2 := hide (Hbb.out.trans (hb2.mono Hbb.out.size))
      clear hw2 hb2 HX1 Hbb hc1 hc2 hd1 hd2 hf1 hf2 hg0 hg1
      go_loopw [30] (fun i wr => ∃ k : Nat, k ≤ m ∧ i = .int .i64 k ∧ Qt w2 wr ∧ faultFrom (V : Int) 0 L = faultFrom (V : Int) k (L.drop k)) (fun i _ => m - (intOf i).toNat)
      case atStart => exact ⟨0, by omega, rfl, Qt.refl _, by simp⟩
      case round =>
        obtain ⟨k, hk, rfl, hq, hrel⟩ := hrel
        have Hrel := hide hrel
        obtain ⟨hc1, hc2, hd1, hd2, hf1, hf2, hg0, hg1⟩ := (HX2.out.qt hq).facts
        have Hbr := hide (Hb2.out.trans (hq.below _))
        have Hq := hide hq
        have hrl := Hl.out.keep Hbr.out
        clear hrel hq
        by_cases hlt : k < m
        · obtain ⟨b, off, C, A', n', c', rfl, hC, hcell, hrC⟩ := hrl.sl hlt
          have HC := hide hC
          clear hC hrl
          go_wp2_with fail
          refine (Clause_ct _ _ _ _ _ _ hrC (by omega) (by omega)).mono ?_
          rintro e w3 ⟨rfl, d1, rfl⟩
          obtain ⟨hc1, hc2, hd1, hd2, hf1, hf2, hg0, hg1⟩ := (HX2.out.qt (Hq.out.drewN d1)).facts
          have Hbr2 := hide (Hb2.out.trans ((Hq.out.drewN d1).below _))
          have Hq2 := hide (Hq.out.drewN d1)
          clear Hq Hbr
          obtain ⟨wd, hwd⟩ : ∃ wd, wd = wr.drewN d1 := ⟨_, rfl⟩
          rw [← hwd] at hc1 hc2 hd1 hd2 hf1 hf2 hg0 hg1 Hbr2 Hq2 ⊢
          clear hwd
          obtain ⟨c9, hcc⟩ : ∃ c9, c9 = clauseCode (V : Int) none C := ⟨_, rfl⟩
          rw [← hcc]
          have Hcc := hide hcc
          clear hcc
          by_cases hc9 : c9 = 0
          · subst hc9
            go_wp2_with fail
            go_roundw
            case rel => exact ⟨k + 1, by omega, by go_num, Hq2.out, by rw [Hrel.out, drop_cons HC.out, faultFrom, if_pos Hcc.out.symm]⟩
            case measure => simp [intOf]; omega
          · have hne : (c9 != 0) = true := by simpa using hc9
            go_wp2_with fail
            refine bodyPost_ret (v := holdsV (false, c9, k)) (by simp [results, Try.results35, go_sem, holdsV, hd1, hd2, hg1]) rfl ⟨?_, below_res2 Hbr2.out (show w.heap.size ≤ w.heap.size + 1 by omega) _ _⟩
            have hx : faultFrom (V : Int) 0 L = (c9, (k : Int)) := by rw [Hrel.out, drop_cons HC.out, faultFrom, if_neg (by rw [← Hcc.out]; exact hc9), ← Hcc.out]
            rw [Hr.out, hx, if_pos hc9]
        · obtain rfl : k = m := by omega
          have hcodes : (faultFrom (V : Int) 0 L).1 = 0 := by rw [Hrel.out, List.drop_of_length_le (by rw [Hlm.out]; omega), faultFrom]
          have hr2 : checkR V cs L = (checkB V cs L, 0, 0) := by rw [Hr.out, if_neg (by simpa using hcodes)]
          have HL := hide (fun c hc => clean_of_code (faultFrom_ok.1 hcodes c hc))
          have Hr2 := hide hr2
          clear hcodes hr2 Hrel Hr hrl
          go_wp2_with fail
          with_reducible refine (clone_ct H.out Hbr.out HA.out (by omega)).mono ?_
          rintro e w3 hcl
          obtain ⟨O, oc, vs, rfl, hb3, hown⟩ := clone_own hcl Hbr.out
          have Hown := hide (hown Hln.out)
          clear hcl hown
          have hX3 := (HX2.out.qt Hq.out).keep hb3
          have HX3 := hide hX3
          have Hb3 := hide (Hbr.out.trans (hb3.mono Hbr.out.size))
          have hsz3 : w.heap.size + 1 < w3.heap.size := hX3.lt.2
          have Hsz := hide (⟨rfl, hb3.size⟩ : w.heap.size = w.heap.size ∧ wr.heap.size ≤ w3.heap.size)
          have hwr := (HX2.out.qt Hq.out).lt.2
          clear hb3 hX3 HX2 Hb2 Hq Hbr hc1 hc2 hd1 hd2 hf1 hf2 hg0 hg1
          have hsw := Hsz.out.2
          obtain ⟨wo, rfl⟩ : ∃ V, V = wr := ⟨_, rfl⟩
          go_wp2_with fail
          go_loopw [10, 50] (fun o i wr => ∃ (k' : Nat) (O : Option Addr) (oc : Nat) (vs : List Value), k' ≤ k ∧ i = .int .i64 k' ∧ o = .slice O (n + k') oc ∧ OwnE (Enc.sl Enc.int) 22 wo.heap.size (fun b => wo.heap.size ≤ b) wr O (n + k') oc vs (cs ++ L.take k') ∧ Below wo.heap.size w3 wr ∧
            chkFrom V cs L = chkFrom V (cs ++ L.take k') (L.drop k')) (fun _ i _ => k - (intOf i).toNat)
          case atStart => exact ⟨0, O, oc, vs, by omega, rfl, rfl, by simpa using Hown.out, Below.refl _ _, by simp⟩
          case round =>
            obtain ⟨q, O, oc, vs, hq, rfl, rfl, hown, hbr, hrel⟩ := hrel
            have hX := HX3.out.low hbr hwr
            obtain ⟨hc1, hc2, hd1, hd2, hf1, hf2, hg0, hg1⟩ := hX.facts
            have HX := hide hX
            have Hown2 := hide hown
            have Hbr := hide hbr
            have Hbw := hide (Hb3.out.trans (hbr.mono (by omega)))
            have Hrel := hide hrel
            have hszr : wo.heap.size ≤ wr.heap.size := Nat.le_trans hsw hbr.size
            clear hX hown hbr hrel
            by_cases hlt : q < k
            · obtain ⟨b, off, C, A', n', c', rfl, hC, hcell0, hrC0⟩ := Hl.out.sl hlt
              have hcell := (Hbw.out.cell (p := ⟨b, off + q, none⟩) (World.block_lt_of_cell? w _ hcell0)).trans hcell0
              have HrC := hide (hrC0.keep Hbw.out)
              have HrC0 := hide hrC0
              have hCc := HL.out C (List.mem_of_getElem? hC)
              have hCn : n' ≤ 1000 := by
                have := clean_len hCc
                have := hrC0.len
                omega
              have HCl := hide hrC0.len
              have HCc := hide hCc
              have HC := hide hC
              clear hC hcell0 hrC0 hCc
              obtain ⟨i1, hi1, hy0, hy1, hy2⟩ := info_parts Try.intInfo
              obtain ⟨i0, hi0, hz0, hz1, hz2⟩ := info_parts sliceInfo3
              go_wp2_with fail
              obtain ⟨wq, rfl⟩ : ∃ V, V = wr := ⟨_, rfl⟩
              go_loopw [13, 56] (fun o i wr => ∃ (j : Nat) (O2 : Option Addr) (oc2 : Nat) (vs2 : List Value), j ≤ n' ∧ i = .int .i64 j ∧ o = .slice O2 j oc2 ∧ OwnE Enc.int 3 wq.heap.size (fun b => wq.heap.size ≤ b) wr O2 j oc2 vs2 (negs (C.take j)) ∧ Below wq.heap.size wq wr) (fun _ i _ => n' - (intOf i).toNat)
              case atStart => exact ⟨0, none, 0, [], by omega, rfl, rfl, OwnE.nil _ _ _ _ _, Below.refl _ _⟩
              case round =>
                obtain ⟨j, O2, oc2, vs2, hj, rfl, rfl, hown2, hb2⟩ := hrel
                have hsz2 := hb2.size
                have hrC2 := HrC.out.keep hb2
                have HownA := hide hown2
                have Hb2 := hide hb2
                clear hown2 hb2
                by_cases hlt2 : j < n'
                · obtain ⟨b2, off2, x, rfl, hx, hx1, hx2, hcx⟩ := hrC2.int hlt2
                  have hxf := HCc.out.1 x (List.mem_of_getElem? hx)
                  have hxv : -1000 ≤ x ∧ x ≤ 1000 := by unfold Fits at hxf; omega
                  have hwx : IntKind.i64.wrap (-x) = -x := by rw [IntWalk.i64_in _ (by omega)]
                  have hnt := negs_take hx
                  have Hnt := hide hnt
                  clear hxf hx hnt hrC2
                  go_wp2_with
                    (at_builtin
                     refine wpList_pushE rfl _ _ 22 rfl wq.heap.size 3 i1 (.int .i64 0) 8 Try.underlying22 hi1 hy0 hy1 hy2 rfl (by decide) rfl HownA.out (fun r hr => (HownA.out.base hr).1) [.int .i64 (-x)] (-x) (by intro u hu; simp at hu; subst hu; rfl) rfl (firm_int (by omega) (by omega)) (by omega) (by omega) hsz2 ?_
                     intro O6 oc6 w6 hown6 hch6 hat6
                     have hown6 := hown6.less (M' := fun b => wq.heap.size ≤ b) (fun i _ e => .inl e)
                     have hb6 := row_below Hb2.out hsz2 hch6 (fun r hr => (HownA.out.base hr).1)
                     rw [← Hnt.out] at hown6
                     have Hown6 := hide hown6
                     have Hb6 := hide hb6
                     clear hown6 hch6 hat6 hb6)
                  go_roundw
                  case rel => exact ⟨j + 1, O6, oc6, _, by omega, by go_num, rfl, Hown6.out, Hb6.out⟩
                  case measure => simp [intOf]; omega
                · obtain rfl : j = n' := by omega
                  have hcs2 : ∀ c ∈ cs ++ L.take q, Clean V c := fun c hc => by
                    rcases List.mem_append.1 hc with hc | hc
                    · exact Hcl.out c hc
                    · exact HL.out c (List.mem_of_mem_take hc)
                  have hneg : negs (C.take j) = negs C := by rw [List.take_of_length_le (by rw [HCl.out]; omega)]
                  have hX4 := HX.out.keep Hb2.out
                  obtain ⟨hc1, hc2, hd1, hd2, hf1, hf2, hg0, hg1⟩ := hX4.facts
                  have HX4 := hide hX4
                  have hasm := Assume_ct V O2 j oc2 (negs C) wr (by omega) (by rw [← hneg]; exact HownA.out.rd) (negs_clean HCc.out).1
                  have Hcs2 := hide hcs2
                  have Hasm := hide hasm
                  clear hcs2 hneg hX4 hasm
                  go_wp2_with fail
                  with_reducible refine Hasm.out.mono ?_
                  rintro e w4 ⟨hb4, has⟩
                  obtain ⟨vals0, hv0, hlit0⟩ := assume_clean (negs_clean HCc.out)
                  obtain ⟨vals, hv, hvals, rfl, hbv⟩ := has.resolve_left (fun h => by rw [hv0] at h; cases h.1)
                  have hclo := Close_ct V O (n + q) oc wr.heap.size (cs ++ L.take q) vals wr w4 (by omega) ((Hown2.out.keep Hb2.out).rd) (fun l hl x hx => (Hcs2.out l hl).1 x hx) hb4 (Nat.le_refl _) hbv hvals
                  have Hv := hide hv
                  have Hclo := hide hclo
                  have Hb4 := hide hb4
                  clear hlit0 hb4 has hv0 hv hvals hbv hclo Hasm hc1 hc2 hd1 hd2 hf1 hf2 hg0 hg1 vals0
                  have hX5 := HX4.out.keep Hb4.out
                  obtain ⟨hc1, hc2, hd1, hd2, hf1, hf2, hg0, hg1⟩ := hX5.facts
                  clear hX5
                  go_wp2_with fail
                  with_reducible refine Hclo.out.mono ?_
                  rintro e w5 ⟨hgr, hres⟩
                  have hb5 : Below wr.heap.size wr w5 := Hb4.out.trans ((Chg.of_grown hgr).below (fun i e => by injection e with e; omega) Hb4.out.size)
                  have HX5 := hide (HX4.out.keep hb5)
                  have Hb5 := hide (Hb2.out.trans (hb5.mono Hb2.out.size))
                  clear hgr hb5 hc1 hc2 hd1 hd2 hf1 hf2 hg0 hg1 Hclo
                  obtain ⟨hc1, hc2, hd1, hd2, hf1, hf2, hg0, hg1⟩ := HX5.out.facts
                  have hsz5 : wo.heap.size ≤ w5.heap.size := Nat.le_trans hszr Hb5.out.size
                  have Hbw5 := hide (Hbw.out.trans (Hb5.out.mono (by omega)))
                  have Hbr5 := hide (Hbr.out.trans (Hb5.out.mono hszr))
                  rcases hres with ⟨hno, rfl⟩ | ⟨vals', hyes, rfl, _, _⟩
                  · have Hno := hide hno
                    have Hown5 := hide (Hown2.out.keep Hb5.out)
                    have hsp : (cs ++ L.take q) ++ [C] = cs ++ L.take (q + 1) := by rw [List.take_add_one, HC.out, List.append_assoc]; rfl
                    have Hsp := hide hsp
                    clear hno hsp
                    go_wp2_with
                      (at_builtin
                       refine wpList_pushE rfl _ _ 40 rfl wo.heap.size 22 i0 (.slice none 0 0) 24 Try.underlying40 hi0 hz0 hz1 hz2 rfl (by decide) rfl Hown5.out (fun r hr => (Hown5.out.base hr).1) [.slice A' j c'] C (by intro u hu; simp at hu; subst hu; rfl) rfl (firm_old ⟨A', j, c', rfl, HrC0.out⟩ Hbw5.out (fun i hi => by omega)) (by omega) (by omega) hsz5 ?_
                       intro O6 oc6 w6 hown6 hch6 hat6
                       have hown6 := hown6.less (M' := fun b => wo.heap.size ≤ b) (fun i _ e => .inl e)
                       have hb6 := row_below Hbr5.out hsz5 hch6 (fun r hr => (Hown5.out.base hr).1)
                       rw [Hsp.out] at hown6
                       have Hown6 := hide hown6
                       have Hb6 := hide hb6
                       clear hown6 hch6 hat6 hb6)
                    go_roundw
                    case rel => exact ⟨q + 1, O6, oc6, _, by omega, by go_num, rfl, Hown6.out, Hb6.out, by rw [Hrel.out, drop_cons HC.out, chkFrom_go Hv.out Hno.out, Hsp.out]⟩
                    case measure => simp [intOf]; omega
                  · have hres : checkR V cs L = (false, 0, 0) := by
                      rw [Hr2.out, checkB, Hrel.out, drop_cons HC.out, chkFrom_stop Hv.out hyes]
                      rfl
                    have Hres := hide hres
                    clear hres hyes
                    go_wp2_with fail
                    refine bodyPost_ret (v := holdsV (false, 0, 0)) (by simp [results, Try.results35, go_sem, holdsV, hd1, hd2, hg1]) rfl ⟨by rw [Hres.out], below_res2 Hbw5.out (show w.heap.size ≤ w.heap.size + 1 by omega) _ _⟩
            · obtain rfl : q = k := by omega
              have hres : checkR V cs L = (lastNil L, 0, 0) := by
                rw [Hr2.out, checkB, Hrel.out, List.drop_of_length_le (by rw [Hlm.out]; omega), chkFrom, Bool.true_and]
              have Hres := hide hres
              clear hres
              cases q with
              | zero =>
                have hnil : lastNil L = false := by rw [List.eq_nil_of_length_eq_zero Hlm.out]; rfl
                rw [hnil] at Hres
                go_wp2_with fail
                refine bodyPost_ret (v := holdsV (false, 0, 0)) (by simp [results, Try.results35, go_sem, holdsV, hd1, hd2, hg1]) rfl ⟨by rw [Hres.out], below_res2 Hbw.out (show w.heap.size ≤ w.heap.size + 1 by omega) _ _⟩
              | succ j =>
                obtain ⟨b, off, C, A', n', c', rfl, hC, hcell0, hrC0⟩ := Hl.out.sl (show j < j + 1 by omega)
                have hcell := (Hbw.out.cell (p := ⟨b, off + j, none⟩) (World.block_lt_of_cell? w _ hcell0)).trans hcell0
                have hlast : lastNil L = ((n' : Int) == 0) := by
                  unfold lastNil
                  have : L.getLast? = some C := by rw [List.getLast?_eq_getElem?, Hlm.out]; exact hC
                  rw [this]
                  have := hrC0.len
                  cases C with
                  | nil => simp at this; simp [← this]
                  | cons x C => simp at this; rw [eq_comm, beq_eq_false_iff_ne]; omega
                have Hlast := hide hlast
                clear hcell0 hrC0 hC hlast
                go_wp2_with fail
                refine bodyPost_ret (v := holdsV ((n' : Int) == 0, 0, 0)) (by simp [results, Try.results35, go_sem, holdsV, hd1, hd2, hg1]) rfl ⟨by rw [Hres.out, Hlast.out], below_res2 Hbw.out (show w.heap.size ≤ w.heap.size + 1 by omega) _ _⟩
  · have hr : checkR v cs L = (false, ec, ei) := by rw [checkR, Hcf.out, if_pos hec]
    rw [hr]
    clear hr
    have hne : (ec != 0) = true := by simpa using hec
    go_enter Try.func35, Try.ntmps35
    go_wp2_with fail
    refine (Validate_at Hcf.out _ _ _ _ hv1 hv2 (by exact H2.out)).mono ?_
    rintro e w1 ⟨rfl, hb1⟩
    obtain ⟨hc1, hc2, hd1, hd2, hf1, hf2, hg0, hg1⟩ := (HX.out.keep hb1).facts
    have Hbb := hide (Hb.out.trans (hb1.mono Hb.out.size))
    clear hb1 HX Hb
    go_wp2
    go_region
    all_goals go_wp2
    all_goals
      refine bodyPost_ret (v := holdsV (false, ec, ei)) (by simp [results, Try.results35, go_sem, holdsV, hd1, hd2, hg1]) rfl ⟨rfl, (below_res2_alloc Hbb.out (show w.heap.size ≤ w1.heap.size by omega) (show w.heap.size ≤ w.heap.size + 1 by omega) _ _ _).drew⟩
end Go.Proofs.Ytnfeknfakkdbhaa
