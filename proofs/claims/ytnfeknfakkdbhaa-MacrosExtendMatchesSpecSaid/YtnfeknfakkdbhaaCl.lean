/- Contracts of clauses.Variable, set, clause. -/
import Derived.Test.YtnfeknfakkdbhaaBase
import Derived.Test.YtnfeknfakkdbhaaClPure
namespace Go.Proofs.Ytnfeknfakkdbhaa
open Go.RowKit

theorem Variable_ct (x : Int) (w : World) (h : -9223372036854775808 < x) (h' : x ≤ 9223372036854775807) : Calls Try.prog 106 #[.int .i64 x] w (Same w (.int .i64 (litVar x))) := by
  go_enter Try.func106, Try.ntmps106
  go_wp2
  all_goals
    go_ret
    refine ⟨?_, rfl⟩
    first
      | exact ret_int (show -x = litVar x by unfold litVar; omega)
      | exact ret_int (show x = litVar x by unfold litVar; omega)

theorem bad_ret {v x X : Int} {p : Option Int} {xs : List Int} (h : X = clauseCode v p (x :: xs)) (hx : x = 0 ∨ x < -v ∨ v < x) : Ending.returned (.int .i64 3) = .returned (.int .i64 X) :=
  ret_int (by rw [h, clauseCode_bad p xs hx])
theorem bool3 {x v : Int} (h : ((x == 0) = true ∨ x < -v) ∨ v < x) : x = 0 ∨ x < -v ∨ v < x := by
  simp only [beq_iff_eq] at h
  omega

set_option maxHeartbeats 400000 in
theorem clause_ct (A : Option Addr) (n c : Nat) (v : Int) (xs : List Int) (w : World) (h : Rd Enc.int w A n c xs) (hv : 0 ≤ v) (hv' : v < 9223372036854775807) :
    Calls Try.prog 100 #[.slice A n c, .int .i64 v] w (Quiet w (.int .i64 (clauseCode v none xs))) := by
  have hsm := h.low
  go_enter Try.func100, Try.ntmps100
  go_wp2
  go_loopw [9] (fun i wr => ∃ k : Nat, k ≤ n ∧ i = .int .i64 k ∧ Qt w wr ∧ clauseCode v none xs = clauseCode v (if k = 0 then none else xs[k-1]?) (xs.drop k) ∧ (∀ y, k ≠ 0 → xs[k-1]? = some y → Fits v y)) (fun i _ => n - (intOf i).toNat)
  case atStart => exact ⟨0, by omega, rfl, Qt.refl _, by simp, by simp⟩
  case round =>
    obtain ⟨k, hk, rfl, hq, hrel, hfit⟩ := hrel
    by_cases hlt : k < n
    · obtain ⟨b, off, x, rfl, hx, hxl, hxh, hcx⟩ := (h.qt hq).int hlt
      rw [drop_cons hx] at hrel
      have Hx := Lib.hid hx
      have Hrel := Lib.hid hrel
      have Hfit := Lib.hid hfit
      clear hx hrel hfit
      by_cases hk0 : k = 0
      · subst hk0
        rw [Nat.add_zero] at hcx
        go_wp2
        · go_ret
          exact ⟨bad_ret Hrel.out (by first | omega | exact bool3 (by assumption)), hq⟩
        · go_ret
          exact ⟨bad_ret Hrel.out (by first | omega | exact bool3 (by assumption)), hq⟩
        · go_quiet (fail)
          go_wp2
          go_roundw
          case rel =>
            refine ⟨1, by omega, by go_num, hq.drewN _, ?_, fun y _ hy => ?_⟩
            · rw [Hrel.out, if_pos trivial, clauseCode_first _ (by omega)]
              simp [Hx.out]
            · obtain rfl := Option.some.inj (Hx.out.symm.trans hy)
              unfold Fits
              omega
          case measure => simp [intOf]; omega
        · go_ret
          exact ⟨bad_ret Hrel.out (by first | omega | exact bool3 (by assumption)), hq⟩
      · obtain ⟨k, rfl⟩ : ∃ j, k = j + 1 := ⟨k - 1, by omega⟩
        obtain ⟨b', off', y, e, hy, hyl, hyh, hcy⟩ := (h.qt hq).int (show k < n by omega)
        injection e with e
        injection e with e1 e2
        subst e1 e2
        have hf := Hfit.out y (by omega) hy
        unfold Fits at hf
        have Hy := Lib.hid hy
        clear hy
        go_wp2
        · go_ret
          exact ⟨bad_ret Hrel.out (by first | omega | exact bool3 (by assumption)), hq⟩
        · go_ret
          exact ⟨bad_ret Hrel.out (by first | omega | exact bool3 (by assumption)), hq⟩
        · have hq0 : decide ((0:Int) < (k:Int) + 1) = true := decide_eq_true (by omega)
          go_quiet ((go_at_call 106; exact same_call (Variable_ct _ _ (by omega) (by omega))))
          go_wp2
          · go_ret
            refine ⟨ret_int ?_, hq.drewN _⟩
            rw [Hrel.out, if_neg (by omega), Nat.add_sub_cancel, Hy.out, clauseCode_low _ (by omega) (by omega)]
          · go_roundw
            case rel =>
              refine ⟨k + 2, by omega, by go_num, hq.drewN _, ?_, fun z _ hz => ?_⟩
              · rw [Hrel.out, if_neg (by omega), Nat.add_sub_cancel, Hy.out, clauseCode_next _ (by omega) (by omega)]
                simp [Hx.out]
              · obtain rfl := Option.some.inj (Hx.out.symm.trans hz)
                unfold Fits
                omega
            case measure => simp [intOf]; omega
        · go_ret
          exact ⟨bad_ret Hrel.out (by first | omega | exact bool3 (by assumption)), hq⟩
    · have Hrel := Lib.hid hrel
      clear hrel hfit
      go_wp2
      go_ret
      refine ⟨ret_int ?_, hq⟩
      rw [Hrel.out, List.drop_of_length_le (by rw [h.len]; omega), clauseCode_nil]

theorem Try.intInfo : (Try.prog.info? 3).map (fun i => (i.zero, i.size, i.bytes)) = some (some (.int .i64 0), 1, 8) := by kernel_rfl

/-- nothing handed back -/
def Ends (e : Ending) : Prop := e = .returned (.tuple #[])
theorem set_ct (g n c : Nat) (x : Int) (vals : List Int) (w : World) (hb : BlkI 3 w g vals) (hn : vals.length = n) (hn' : n ≤ 100000) (h0 : x ≠ 0) (h1 : -n < x) (h2 : x < n) :
    Calls Try.prog 107 #[.slice (some ⟨g, 0, none⟩) n c, .int .i64 x] w fun e w' => Ends e ∧ BlkI 3 w' g (setLit vals x) ∧ w.grownBy w' (some g) := by
  have hv := (show Fits (n - 1 : Int) x by unfold Fits; omega).var
  obtain ⟨q, hq⟩ : ∃ q : Nat, (q : Int) = litVar x := ⟨(litVar x).toNat, by omega⟩
  have hqx : (x < 0 → (q : Int) = -x) ∧ (0 < x → (q : Int) = x) := by unfold litVar at hq; omega
  have Hset : Hid (setLit vals x = (vals.set q 1).set q (if x < 0 then -1 else 1)) := by
    show setLit vals x = _
    rw [List.set_set, setLit, ← hq, Int.toNat_natCast]
  obtain ⟨u, hc0⟩ : ∃ u, w.cell? ⟨g, q, none⟩ = some (.int .i64 u) := ⟨_, hb.cell (List.getElem?_eq_getElem (show q < vals.length by omega))⟩
  have hf0 := hb.frozen q
  have hql : q < n := by omega
  have HV := Lib.hid hq
  clear hq hn
  by_cases hx : x < 0
  · have h3 := hqx.1 hx
    clear hqx
    obtain rfl : x = -(q : Int) := by omega
    have hq0 : 0 < q := by omega
    clear h3 hx h0
    go_enter Try.func107, Try.ntmps107
    go_wp2_with (go_at_call 106; refine (Variable_ct _ _ (by omega) (by omega)).mono ?_; rintro e w1 ⟨rfl, rfl⟩; rw [← HV.out])
    go_end0
    refine ⟨rfl, ?_, only_trans (only_set _ _ _ _) (only_set _ _ _ _)⟩
    rw [Hset.out, if_pos (by omega)]
    exact (hb.set q 1).set q (-1)
  · have h3 := hqx.2 (by omega)
    clear hqx
    obtain rfl : x = (q : Int) := by omega
    clear h3 hx h0
    go_enter Try.func107, Try.ntmps107
    go_wp2_with (go_at_call 106; refine (Variable_ct _ _ (by omega) (by omega)).mono ?_; rintro e w1 ⟨rfl, rfl⟩; rw [← HV.out])
    go_end0
    refine ⟨rfl, ?_, only_set _ _ _ _⟩
    rw [Hset.out, if_neg (by omega), List.set_set]
    exact hb.set q 1

theorem code_eq_zero_beq {e : Int} (h : e = 0) : (e != 0) = false := by simp [h]
def faultV (p : Int × Int) : Value := .agg #[.int .i64 p.1, .int .i64 p.2]

set_option maxHeartbeats 800000 in
theorem Validate_ct (v : Int) (A : Option Addr) (n c : Nat) (cs : List (List Int)) (w : World) (hv1 : -9223372036854775808 ≤ v) (hv2 : v ≤ 9223372036854775807) (h : Rd (Enc.sl Enc.int) w A n c cs) :
    Calls Try.prog 67 #[.agg #[.int .i64 v, .slice A n c]] w (Gives w (faultV (cnfFault v cs))) := by
  have hsm := h.low
  have Hl := Lib.hid h.len
  obtain ⟨hB1, hB2, hbw⟩ := boxed2 w 51 29 [.int .i64 v, .slice A n c] [.int .i64 0, .int .i64 0]
  by_cases hv : v < 0 ∨ 80 < v
  · have hres : cnfFault v cs = (3, -1) := by rw [cnfFault, if_pos hv]
    rw [hres]
    clear hres hB1 hB2
    by_cases hv3 : v < 0
    · go_enter Try.func67, Try.ntmps67
      go_wp2
      exact bodyPost_ret (v := faultV (3, -1)) (by simp [results, Try.results67, go_sem, faultV]) rfl ⟨rfl, below_two _ _ _⟩
    · have hv4 : 80 < v := by omega
      clear hv
      go_enter Try.func67, Try.ntmps67
      go_wp2
      exact bodyPost_ret (v := faultV (3, -1)) (by simp [results, Try.results67, go_sem, faultV]) rfl ⟨rfl, below_two _ _ _⟩
  · have hres : cnfFault v cs = if 1500 < n then (2, -1) else faultFrom v 0 cs := by rw [cnfFault, if_neg hv, h.len]
    by_cases hn : 1500 < n
    · rw [hres, if_pos hn]
      clear hres hB1 hB2
      go_enter Try.func67, Try.ntmps67
      go_wp2
      exact bodyPost_ret (v := faultV (2, -1)) (by simp [results, Try.results67, go_sem, faultV]) rfl ⟨rfl, below_two _ _ _⟩
    · rw [hres, if_neg hn]
      clear hres
      have hv3 : 0 ≤ v := by omega
      have hv4 : v ≤ 80 := by omega
      clear hv
      have Hb := hide hbw
      have H1 := hide hB1
      have H2 := hide hB2
      have h2 := h.keep hbw
      clear hbw hB1 hB2
      go_enter Try.func67, Try.ntmps67
      go_wp2
      go_loopw [25] (fun i wr => ∃ k : Nat, k ≤ n ∧ i = .int .i64 k ∧ Qt ((w.alloc (.cells #[.int .i64 v, .slice A n c] 51)).alloc (.cells #[.int .i64 0, .int .i64 0] 29)) wr ∧ faultFrom v 0 cs = faultFrom v k (cs.drop k)) (fun i _ => n - (intOf i).toNat)
      case atStart => exact ⟨0, by omega, rfl, Qt.refl _, by simp⟩
      case round =>
        obtain ⟨k, hk, rfl, hq, hrel⟩ := hrel
        have hB1 := (H1.out.qt hq).cell2
        obtain ⟨hc1, hc2⟩ := hB1
        have hB2 := H2.out.qt hq
        obtain ⟨hd1, hd2⟩ := hB2.cell2
        have hf1 := hB2.frozen 0
        have hf2 := hB2.frozen 1
        have hbr := Hb.out.trans (hq.below _)
        have Hbr := hide hbr
        clear hB2 hbr
        by_cases hlt : k < n
        · obtain ⟨b, off, x, A', n', c', rfl, hx, hcx, hrx⟩ := (h2.qt hq).sl hlt
          rw [drop_cons hx] at hrel
          have Hrel := Lib.hid hrel
          clear hrel hx
          go_wp2_with fail
          refine (clause_ct _ _ _ _ _ _ hrx hv3 (by omega)).mono ?_
          rintro e w1 ⟨rfl, d1, rfl⟩
          go_wp2
          · have hne : (clauseCode v none x != 0) = true := by assumption
            have hne := bne_iff_ne.1 hne
            refine bodyPost_ret (v := faultV (clauseCode v none x, k)) (by simp [results, Try.results67, go_sem, faultV, hd1, hd2]) rfl ⟨?_, (below_drewN Hbr.out d1 |>.setCell (by simp) _).setCell (by simp) _⟩
            rw [Hrel.out, faultFrom, if_neg hne]
          · have hne : (clauseCode v none x != 0) = false := by assumption
            have hne := bne_eq_false_iff_eq.1 hne
            go_roundw
            case rel =>
              refine ⟨k + 1, by omega, by go_num, hq.drewN _, ?_⟩
              rw [Hrel.out, faultFrom, if_pos hne]
            case measure => simp [intOf]; omega
        · have Hrel := Lib.hid hrel
          clear hrel
          go_wp2
          refine bodyPost_ret (v := faultV (0, 0)) (by simp [results, Try.results67, go_sem, faultV, hd1, hd2]) rfl ⟨?_, (Hbr.out.setCell (by simp) _).setCell (by simp) _⟩
          rw [Hrel.out, List.drop_of_length_le (by rw [Hl.out]; omega), faultFrom]
end Go.Proofs.Ytnfeknfakkdbhaa
