/- The law on Encode, part 4: Cl Cl3 Ref6a. -/
import Derived.Test.YtnfeknfakkdbhaaP1
import Derived.Test.YtnfeknfakkdbhaaP2
import Derived.BigQuiet
import Derived.Deep.AppendLies
import Derived.Deep.Draws
import Derived.Deep.Fields
import Derived.Deep.LoopGhost
import Derived.Deep.QuietTactic
import Derived.Deep.Slices
import Derived.Laws.AppendOwnNone
import Derived.Laws.OwnMore
import Derived.Lib.Hide
import Derived.Test.YtnfeknfakkdbhaaProg
import Derived.WalkKit
import Init
namespace Go.Proofs.Ytnfeknfakkdbhaa
open Go.RowKit
theorem Variable_ct (x : Int) (w : World) (h : -9223372036854775808 < x) (h' : x ≤ 9223372036854775807) : Calls Try.prog 106 #[.int .i64 x] w (Same w (.int .i64 (litVar x))) := by
  go_enter Try.func106, Try.ntmps106
  go_wp2
  all_goals
    go_ret
    refine ⟨?_, rfl⟩
    first
      | exact ret_int (show -x = litVar x by unfold litVar; omega)
      | exact ret_int (show x = litVar x by unfold litVar; omega)

theorem bad_ret {v x X : Int} {p : Option Int} {xs : List Int} (h : X = clauseCode v p (x :: xs)) (hx : x = 0 ∨ x < -v ∨ v < x) : Ending.returned (.int .i64 3) = .returned (.int .i64 X) :=
  ret_int (by rw [h, clauseCode_bad p xs hx])
theorem Try.intInfo : (Try.prog.info? 3).map (fun i => (i.zero, i.size, i.bytes)) = some (some (.int .i64 0), 1, 8) := by kernel_rfl

/-- nothing handed back -/
def Ends (e : Ending) : Prop := e = .returned (.tuple #[])
def faultV (p : Int × Int) : Value := .agg #[.int .i64 p.1, .int .i64 p.2]

end Go.Proofs.Ytnfeknfakkdbhaa
namespace Go.Proofs.Ytnfeknfakkdbhaa
open Go.RowKit
theorem litVar_at {m : List Bool} {x : Int} {q : Nat} {y : Bool} (hq : (q : Int) = litVar x) (hy : m[q - 1]? = some y) : trueLit m x = (y == decide (0 < x)) := by
  rw [trueLit, ← hq, Int.toNat_natCast, List.getD_eq_getElem?_getD, hy, Option.getD_some]

theorem Variable_at {x : Int} {q : Nat} (hq : (q : Int) = litVar x) (w : World) (h : -9223372036854775808 < x) (h' : x ≤ 9223372036854775807) : Calls Try.prog 106 #[.int .i64 x] w (Same w (.int .i64 (q : Int))) := by
  rw [hq]
  exact Variable_ct x w h h'
set_option maxHeartbeats 400000 in
theorem trueFn_ct (g : Nat) (A : Option Addr) (n c : Nat) (m : List Bool) (x : Int) (w : World) (hc : w.cell? ⟨g, 0, none⟩ = some (.slice A n c)) (h : Rd Enc.bool w A n c m) (hn : n ≤ 1000) (hx : Fits n x) :
    Calls Try.prog 109 #[.int .i64 x, .pointer (some ⟨g, 0, none⟩)] w (Quiet w (.bool (trueLit m x))) := by
  have hxv := hx.var
  have hx1 := hx.2.1
  have hx2 := hx.2.2
  obtain ⟨q, hq⟩ : ∃ q : Nat, (q : Int) = litVar x := ⟨(litVar x).toNat, by omega⟩
  obtain ⟨q, rfl⟩ : ∃ j, q = j + 1 := ⟨q - 1, by omega⟩
  obtain ⟨b, off, y, rfl, hy, hcy⟩ := h.bool (show q < n by omega)
  have Hy := hide (litVar_at hq hy)
  have HV := hide hq
  have hqn : q < n := by omega
  clear hy hq
  go_enter Try.func109, Try.ntmps109
  go_wp2
  go_quiet ((go_at_call 106; exact same_call (Variable_at HV.out _ (by omega) (by omega))))
  go_wp2
  go_ret
  exact ⟨ret_bool Hy.out.symm, _, rfl⟩

/-- slices.IndexFunc at this closure: the first place where it holds -/
def firstTrue (m : List Bool) : Nat → List Int → Int
  | _, [] => -1
  | k, x :: xs => if trueLit m x = true then k else firstTrue m (k + 1) xs
theorem firstTrue_sign (m : List Bool) (k : Nat) (xs : List Int) : decide (0 ≤ firstTrue m k xs) = xs.any (trueLit m) := by
  induction xs generalizing k with
  | nil => simp [firstTrue]
  | cons x xs ih =>
    unfold firstTrue
    by_cases h : trueLit m x = true
    · simp [h]
    · rw [if_neg h, ih]
      simp [h]

set_option maxHeartbeats 400000 in
theorem trueIndex_ct (g : Nat) (A B : Option Addr) (n c n' c' : Nat) (m : List Bool) (xs : List Int) (w : World) (hc : w.cell? ⟨g, 0, none⟩ = some (.slice A n c)) (h : Rd Enc.bool w A n c m) (hn : n ≤ 1000)
    (hx : Rd Enc.int w B n' c' xs) (hf : ∀ x ∈ xs, Fits n x) :
    Calls Try.prog 115 #[.slice B n' c', .func (.func 109) #[] #[.pointer (some ⟨g, 0, none⟩)]] w (Quiet w (.int .i64 (firstTrue m 0 xs))) := by
  have hsm := hx.low
  have Hl := hide hx.len
  have Hf := hide hf
  clear hf
  go_enter Try.func115, Try.ntmps115
  go_wp2
  go_loopw [8] (fun i wr => ∃ k : Nat, k ≤ n' ∧ i = .int .i64 k ∧ Qt w wr ∧ firstTrue m 0 xs = firstTrue m k (xs.drop k)) (fun i _ => n' - (intOf i).toNat)
  case atStart => exact ⟨0, by omega, rfl, Qt.refl _, by simp⟩
  case round =>
    obtain ⟨k, hk, rfl, ⟨d, rfl⟩, hrel⟩ := hrel
    by_cases hlt : k < n'
    · obtain ⟨b, off, x, rfl, hxx, hxl, hxh, hcx⟩ := hx.int hlt
      rw [drop_cons hxx] at hrel
      have Hfx := hide (Hf.out x (List.mem_of_getElem? hxx))
      have Hrel := hide hrel
      clear hrel hxx
      go_wp2_with fail
      refine (trueFn_ct g A n c m x _ (by exact hc) (by exact h.qt ⟨d, rfl⟩) hn Hfx.out).mono ?_
      rintro e w1 ⟨rfl, d1, rfl⟩
      go_wp2
      · have hh : trueLit m x = true := by assumption
        go_ret
        exact ⟨ret_int (by rw [Hrel.out, firstTrue, if_pos hh]), d + d1, rfl⟩
      · have hh : trueLit m x = false := by assumption
        go_roundw
        case rel => exact ⟨k + 1, by omega, by go_num, ⟨d + d1, rfl⟩, by rw [Hrel.out, firstTrue, if_neg (by simp [hh])]⟩
        case measure => simp [intOf]; omega
    · have Hrel := hide hrel
      clear hrel
      go_wp2
      go_ret
      refine ⟨ret_int ?_, d, rfl⟩
      rw [Hrel.out, List.drop_of_length_le (by rw [Hl.out]; omega), firstTrue]

set_option maxHeartbeats 400000 in
theorem trueAny_ct (g : Nat) (A B : Option Addr) (n c n' c' : Nat) (m : List Bool) (xs : List Int) (w : World) (hc : w.cell? ⟨g, 0, none⟩ = some (.slice A n c)) (h : Rd Enc.bool w A n c m) (hn : n ≤ 1000)
    (hx : Rd Enc.int w B n' c' xs) (hf : ∀ x ∈ xs, Fits n x) :
    Calls Try.prog 93 #[.slice B n' c', .func (.func 109) #[] #[.pointer (some ⟨g, 0, none⟩)]] w (Quiet w (.bool (xs.any (trueLit m)))) := by
  have Hf := hide hf
  clear hf
  go_enter Try.func93, Try.ntmps93
  go_wp2_with fail
  refine (trueIndex_ct g A B n c n' c' m xs _ hc h hn hx Hf.out).mono ?_
  rintro e w1 ⟨rfl, d1, rfl⟩
  go_wp2
  go_ret
  exact ⟨ret_bool (firstTrue_sign m 0 xs), d1, rfl⟩

set_option maxHeartbeats 800000 in
theorem True_ct (A B : Option Addr) (n c n' c' : Nat) (cs : List (List Int)) (m : List Bool) (w : World) (h : Rd (Enc.sl Enc.int) w A n c cs) (hm : Rd Enc.bool w B n' c' m) (hn : n' ≤ 1000) (hf : ∀ l ∈ cs, ∀ x ∈ l, Fits n' x) :
    Calls Try.prog 79 #[.slice A n c, .slice B n' c'] w (Gives w (.bool (trueAll cs m))) := by
  have hsm := h.low
  have Hl := hide h.len
  have Hf := hide hf
  clear hf
  have hw2 : Below w.heap.size w (w.alloc (.cells #[.slice B n' c'] 52)) := (Below.refl _ _).alloc (Nat.le_refl _) _
  have Hw2 := hide hw2
  have HB := hide (Blk.new w 52 [.slice B n' c'])
  have hmf : ∀ (fn : Fn) (first cap : Array Value) (w : World), (Instr.makeFunc fn first cap).run Try.prog w = .ok (.func fn first cap) w := fun _ _ _ _ => rfl
  clear hw2
  go_enter Try.func79, Try.ntmps79
  go_wp2
  go_loopw [9] (fun i wr => ∃ k : Nat, k ≤ n ∧ i = .int .i64 k ∧ Qt (w.alloc (.cells #[.slice B n' c'] 52)) wr ∧ trueAll cs m = trueAll (cs.drop k) m) (fun i _ => n - (intOf i).toNat)
  case atStart => exact ⟨0, by omega, rfl, Qt.refl _, by simp⟩
  case round =>
    obtain ⟨k, hk, rfl, ⟨d, rfl⟩, hrel⟩ := hrel
    have Hrel := hide hrel
    clear hrel
    by_cases hlt : k < n
    · obtain ⟨b, off, l, A', n1, c1, rfl, hl, hcx, hrx⟩ := (h.keep (below_drewN Hw2.out d)).sl hlt
      have Hd := hide (drop_cons hl)
      have Hfl := hide (Hf.out l (List.mem_of_getElem? hl))
      have hcx := hcx
      rw [World.cell?_drewN] at hcx
      clear hl
      go_wp2_with fail
      refine (trueAny_ct w.heap.size B A' n' c' n1 c1 m l _ (by exact HB.out.cell 0) (by exact hm.keep (below_drewN Hw2.out d)) hn (by exact hrx) Hfl.out).mono ?_
      rintro e w1 ⟨rfl, d1, rfl⟩
      go_wp2
      · have hh : (!l.any (trueLit m)) = true := by assumption
        simp only [Bool.not_eq_true'] at hh
        go_ret
        refine ⟨ret_bool ?_, below_drewN Hw2.out _⟩
        rw [Hrel.out, Hd.out, trueAll, List.all_cons, hh, Bool.false_and]
      · have hh : (!l.any (trueLit m)) = false := by assumption
        simp only [Bool.not_eq_false'] at hh
        go_roundw
        case rel => exact ⟨k + 1, by omega, by go_num, ⟨d + d1, rfl⟩, by rw [Hrel.out, Hd.out, trueAll, List.all_cons, hh, Bool.true_and]; rfl⟩
        case measure => simp [intOf]; omega
    · go_wp2
      go_ret
      refine ⟨ret_bool ?_, below_drewN Hw2.out d⟩
      rw [Hrel.out, List.drop_of_length_le (by rw [Hl.out]; omega)]
      rfl

end Go.Proofs.Ytnfeknfakkdbhaa
namespace Go.Proofs.Ytnfeknfakkdbhaa
open Go.RowKit
theorem ite_var (x : Int) : (if x < -x then -x else x) = litVar x := by unfold litVar; split <;> omega

set_option maxHeartbeats 800000 in
theorem ClauseCode_ct (A : Option Addr) (n c : Nat) (v : Int) (xs : List Int) (w : World) (h : Rd Enc.int w A n c xs) (hv : 0 ≤ v) (hv' : v < 9223372036854775807) :
    Calls Try.prog 36 #[.slice A n c, .int .i64 v] w (Quiet w (.int .i64 (clauseCode v none xs))) := by
  have hsm := h.low
  have Hl := hide h.len
  go_enter Try.func36, Try.ntmps36
  go_wp2
  go_loopw [5] (fun i wr => ∃ k : Nat, k ≤ n ∧ i = .int .i64 k ∧ Qt w wr ∧ clauseCode v none xs = clauseCode v (if k = 0 then none else xs[k-1]?) (xs.drop k) ∧ (∀ y, k ≠ 0 → xs[k-1]? = some y → Fits v y)) (fun i _ => n - (intOf i).toNat)
  case atStart => exact ⟨0, by omega, rfl, Qt.refl _, by simp, by simp⟩
  case round =>
    obtain ⟨k, hk, rfl, hq, hrel, hfit⟩ := hrel
    by_cases hlt : k < n
    · obtain ⟨b, off, x, rfl, hx, hxl, hxh, hcx⟩ := (h.qt hq).int hlt
      rw [drop_cons hx] at hrel
      have Hx := hide hx
      have Hrel := hide hrel
      have Hfit := hide hfit
      clear hx hrel hfit
      by_cases hbad : x = 0 ∨ x < -v ∨ v < x
      · by_cases hx0 : x = 0
        · subst hx0
          clear hbad
          go_wp2
          go_ret
          exact ⟨bad_ret Hrel.out (.inl rfl), hq⟩
        · have hin : inB x (-v) v = false := inB_no.2 (by omega)
          have hx0' : (x == 0) = false := by simpa using hx0
          have Hbad := hide hbad
          clear hbad hx0
          go_wp2_with (go_at_call 37; refine (In_ct _ _ _ _).mono ?_; rintro e w1 ⟨rfl, rfl⟩; rw [hin])
          go_ret
          exact ⟨bad_ret Hrel.out Hbad.out, hq⟩
      · have hin : inB x (-v) v = true := inB_iff.2 (by omega)
        have hx0' : (x == 0) = false := by rw [beq_eq_false_iff_ne]; omega
        have hxa : -v ≤ x := by omega
        have hxb : x ≤ v := by omega
        have Hbad := hide hbad
        clear hbad
        by_cases hk0 : k = 0
        · subst hk0
          rw [Nat.add_zero] at hcx
          go_wp2_with (go_at_call 37; refine (In_ct _ _ _ _).mono ?_; rintro e w1 ⟨rfl, rfl⟩; rw [hin])
          go_quiet (fail)
          go_wp2
          go_roundw
          case rel =>
            refine ⟨1, by omega, by go_num, hq.drewN _, ?_, fun y _ hy => ?_⟩
            · rw [Hrel.out, if_pos trivial, clauseCode_first _ Hbad.out]
              simp [Hx.out]
            · obtain rfl := Option.some.inj (Hx.out.symm.trans hy)
              exact ⟨by simpa using hx0', hxa, hxb⟩
          case measure => simp [intOf]; omega
        · obtain ⟨k, rfl⟩ : ∃ j, k = j + 1 := ⟨k - 1, by omega⟩
          obtain ⟨b', off', y, e, hy, hyl, hyh, hcy⟩ := (h.qt hq).int (show k < n by omega)
          injection e with e
          injection e with e1 e2
          subst e1 e2
          have hf := Hfit.out y (by omega) hy
          unfold Fits at hf
          have Hy := hide hy
          clear hy
          have hq0 : decide ((0:Int) < (k:Int) + 1) = true := decide_eq_true (by omega)
          go_wp2_with (go_at_call 37; refine (In_ct _ _ _ _).mono ?_; rintro e w1 ⟨rfl, rfl⟩; rw [hin])
          go_quiet (fail)
          go_wp2
          case roundEnd =>
            have hh : (if y < -y then -y else y) < if x < -x then -x else x := by assumption
            rw [ite_var, ite_var] at hh
            go_roundw
            case rel =>
              refine ⟨k + 2, by omega, by go_num, hq.drewN _, ?_, fun z _ hz => ?_⟩
              · rw [Hrel.out, if_neg (by omega), Nat.add_sub_cancel, Hy.out, clauseCode_next _ Hbad.out (by omega)]
                simp [Hx.out]
              · obtain rfl := Option.some.inj (Hx.out.symm.trans hz)
                exact ⟨by simpa using hx0', hxa, hxb⟩
            case measure => simp [intOf]; omega
          all_goals
            have hh : (if x < -x then -x else x) ≤ if y < -y then -y else y := by assumption
            rw [ite_var, ite_var] at hh
            go_ret
            refine ⟨ret_int ?_, hq.drewN _⟩
            rw [Hrel.out, if_neg (by omega), Nat.add_sub_cancel, Hy.out, clauseCode_low _ Hbad.out hh]
    · have Hrel := hide hrel
      clear hrel hfit
      go_wp2
      go_ret
      refine ⟨ret_int ?_, hq⟩
      rw [Hrel.out, List.drop_of_length_le (by rw [Hl.out]; omega), clauseCode_nil]

set_option maxHeartbeats 800000 in
theorem CnfFault_ct (v : Int) (A : Option Addr) (n c : Nat) (cs : List (List Int)) (w : World) (h : Rd (Enc.sl Enc.int) w A n c cs) :
    Calls Try.prog 31 #[.agg #[.int .i64 v, .slice A n c]] w (Gives w (faultV (cnfFault v cs))) := by
  have hsm := h.low
  have Hl := hide h.len
  have hbw := below_two w (.cells #[.int .i64 v, .slice A n c] 51) (.cells #[.int .i64 0, .int .i64 0] 29)
  have HX := hide (Bx2.new w 51 29 (.int .i64 v) (.slice A n c) (.int .i64 0) (.int .i64 0))
  have h2 := h.keep hbw
  have Hb := hide hbw
  clear hbw
  by_cases hv : v < 0 ∨ 80 < v
  · have hres := hide (show cnfFault v cs = (3, -1) by rw [cnfFault, if_pos hv])
    have hin : inB v 0 80 = false := inB_no.2 (by omega)
    clear hv
    go_enter Try.func31, Try.ntmps31
    go_wp2_with (go_at_call 37; refine (In_ct _ _ _ _).mono ?_; rintro e w1 ⟨rfl, rfl⟩; rw [hin])
    refine (At_ct _ _ _).mono ?_
    rintro e w1 ⟨rfl, hb1⟩
    unfold fault
    obtain ⟨hc1, hc2, hd1, hd2, hf1, hf2, hg0, hg1⟩ := (HX.out.keep hb1).facts
    have Hb1 := hide (Hb.out.trans (hb1.mono Hb.out.size))
    clear hb1
    go_wp2
    exact bodyPost_ret (v := faultV (3, -1)) (by simp [results, Try.results31, go_sem, faultV, hd1, hd2]) rfl ⟨by rw [hres.out], below_res2 Hb1.out (by omega) _ _⟩
  · have hin : inB v 0 80 = true := inB_iff.2 (by omega)
    have hres : cnfFault v cs = if 1500 < n then (2, -1) else faultFrom v 0 cs := by rw [cnfFault, if_neg hv, h.len]
    by_cases hn : 1500 < n
    · rw [if_pos hn] at hres
      have Hres := hide hres
      clear hres
      go_enter Try.func31, Try.ntmps31
      go_wp2_with (go_at_call 37; refine (In_ct _ _ _ _).mono ?_; rintro e w1 ⟨rfl, rfl⟩; rw [hin])
      refine (At_ct _ _ _).mono ?_
      rintro e w1 ⟨rfl, hb1⟩
      unfold fault
      obtain ⟨hc1, hc2, hd1, hd2, hf1, hf2, hg0, hg1⟩ := (HX.out.keep hb1).facts
      have Hb1 := hide (Hb.out.trans (hb1.mono Hb.out.size))
      clear hb1
      go_wp2
      exact bodyPost_ret (v := faultV (2, -1)) (by simp [results, Try.results31, go_sem, faultV, hd1, hd2]) rfl ⟨by rw [Hres.out], below_res2 Hb1.out (by omega) _ _⟩
    · rw [if_neg hn] at hres
      have Hres := hide hres
      clear hres
      have hv0 : 0 ≤ v := by omega
      have hv8 : v ≤ 80 := by omega
      clear hv
      go_enter Try.func31, Try.ntmps31
      go_wp2_with (go_at_call 37; refine (In_ct _ _ _ _).mono ?_; rintro e w1 ⟨rfl, rfl⟩; rw [hin])
      go_loopw [3] (fun i wr => ∃ k : Nat, k ≤ n ∧ i = .int .i64 k ∧ Qt ((w.alloc (.cells #[.int .i64 v, .slice A n c] 51)).alloc (.cells #[.int .i64 0, .int .i64 0] 29)) wr ∧ faultFrom v 0 cs = faultFrom v k (cs.drop k)) (fun i _ => n - (intOf i).toNat)
      case atStart => exact ⟨0, by omega, rfl, Qt.refl _, by simp⟩
      case round =>
        obtain ⟨k, hk, rfl, hq, hrel⟩ := hrel
        obtain ⟨hc1, hc2, hd1, hd2, hf1, hf2, hg0, hg1⟩ := (HX.out.qt hq).facts
        have HX1 := hide (HX.out.qt hq)
        have Hbr := hide (Hb.out.trans (hq.below _))
        by_cases hlt : k < n
        · obtain ⟨b, off, x, A', n', c', rfl, hx, hcx, hrx⟩ := (h2.qt hq).sl hlt
          rw [drop_cons hx] at hrel
          have Hrel := hide hrel
          have Hq := hide hq
          clear hrel hx hq
          go_wp2
          go_quiet ((go_at_call 36; exact quiet_call (ClauseCode_ct _ _ _ _ _ _ (hrx.qt ⟨_, rfl⟩) hv0 (by omega))))
          go_wp2_with fail
          · have hne : (clauseCode v none x != 0) = true := by assumption
            have hne := bne_iff_ne.1 hne
            refine (At_ct _ _ _).mono ?_
            rintro e w1 ⟨rfl, hb1⟩
            unfold fault
            clear hc1 hc2 hd1 hd2 hf1 hf2
            obtain ⟨hc1, hc2, hd1, hd2, hf1, hf2, hg0, hg1⟩ := ((HX1.out.drewN nq).keep hb1).facts
            have Hb1 := hide ((below_drewN Hbr.out nq).trans (hb1.mono Hbr.out.size))
            clear hb1
            go_wp2
            refine bodyPost_ret (v := faultV (clauseCode v none x, k)) (by simp [results, Try.results31, go_sem, faultV, hd1, hd2]) rfl ⟨?_, below_res2 Hb1.out (by omega) _ _⟩
            rw [Hres.out, Hrel.out, faultFrom, if_neg hne]
          · have hne : (clauseCode v none x != 0) = false := by assumption
            have hne := bne_eq_false_iff_eq.1 hne
            go_roundw
            case rel =>
              refine ⟨k + 1, by omega, by go_num, Hq.out.drewN _, ?_⟩
              rw [Hrel.out, faultFrom, if_pos hne]
            case measure => simp [intOf]; omega
        · have Hrel := hide hrel
          clear hrel hq
          go_wp2
          refine bodyPost_ret (v := faultV (0, 0)) (by simp [results, Try.results31, go_sem, faultV, hd1, hd2]) rfl ⟨?_, below_res2 Hbr.out (by omega) _ _⟩
          rw [Hres.out, Hrel.out, List.drop_of_length_le (by rw [Hl.out]; omega), faultFrom]

/-- Satisfies is what True is -/
theorem trueLit_pos {m : List Bool} {x : Int} {q : Nat} {y : Bool} (hq : x = (q : Int) + 1) (hy : m[q]? = some y) : trueLit m x = y := by
  subst hq
  have e : (litVar ((q : Int) + 1)).toNat - 1 = q := by unfold litVar; omega
  rw [trueLit, e, List.getD_eq_getElem?_getD, hy, Option.getD_some, decide_eq_true (by omega)]
  cases y <;> rfl
theorem trueLit_neg {m : List Bool} {x : Int} {q : Nat} {y : Bool} (hq : x = -((q : Int) + 1)) (hy : m[q]? = some y) : trueLit m x = !y := by
  subst hq
  have e : (litVar (-((q : Int) + 1))).toNat - 1 = q := by unfold litVar; omega
  rw [trueLit, e, List.getD_eq_getElem?_getD, hy, Option.getD_some, decide_eq_false (by omega)]
  cases y <;> rfl

set_option maxRecDepth 100000 in
set_option maxHeartbeats 1600000 in
theorem Satisfies_ct (A B : Option Addr) (n c n' c' : Nat) (cs : List (List Int)) (m : List Bool) (w : World) (h : Rd (Enc.sl Enc.int) w A n c cs) (hm : Rd Enc.bool w B n' c' m) (hn : n' ≤ 1000) (hf : ∀ l ∈ cs, ∀ x ∈ l, Fits n' x) :
    Calls Try.prog 33 #[.slice A n c, .slice B n' c'] w (Same w (.bool (trueAll cs m))) := by
  have hsm := h.low
  have Hl := hide h.len
  have Hf := hide hf
  clear hf
  go_enter Try.func33, Try.ntmps33
  go_wp2
  go_loop [5] (fun i => ∃ k : Nat, k ≤ n ∧ i = .int .i64 k ∧ trueAll cs m = trueAll (cs.drop k) m) (fun i => n - (intOf i).toNat)
  case atStart => exact ⟨0, by omega, rfl, by simp⟩
  case round =>
    obtain ⟨k, hk, rfl, hrel⟩ := hrel
    have Hrel := hide hrel
    clear hrel
    by_cases hlt : k < n
    · obtain ⟨b, off, l, A', n1, c1, rfl, hl, hcx, hrx⟩ := h.sl hlt
      have Hd := hide (drop_cons hl)
      have Hfl := hide (Hf.out l (List.mem_of_getElem? hl))
      have hsm1 := hrx.low
      have Hl1 := hide hrx.len
      clear hl
      go_wp2
      go_loop [6, 7] (fun s j => ∃ (kk : Nat) (sb : Bool), kk ≤ n1 ∧ j = .int .i64 kk ∧ s = .bool sb ∧ l.any (trueLit m) = (sb || (l.drop kk).any (trueLit m))) (fun _ j => n1 - (intOf j).toNat)
      case atStart => exact ⟨0, false, by omega, rfl, rfl, by simp⟩
      case round =>
        obtain ⟨kk, sb, hkk, rfl, rfl, hrel2⟩ := hrel
        by_cases hlt2 : kk < n1
        · obtain ⟨b1, off1, x, rfl, hx, hxl, hxh, hcx1⟩ := hrx.int hlt2
          rw [drop_cons hx, List.any_cons] at hrel2
          have hfx := Hfl.out x (List.mem_of_getElem? hx)
          have Hrel2 := hide hrel2
          have Hfx := hide hfx
          clear hrel2 hx
          cases sb with
          | true =>
            clear hfx
            go_wp2
            go_round
            case rel => exact ⟨kk + 1, true, by omega, by go_num, rfl, by rw [Hrel2.out]; rfl⟩
            case measure => simp [intOf]; omega
          | false =>
            by_cases hpos : 0 < x
            · obtain ⟨q, hq⟩ : ∃ q : Nat, x = (q : Int) + 1 := ⟨(x - 1).toNat, by omega⟩
              obtain ⟨bm, om, y, rfl, hy, hcy⟩ := hm.bool (show q < n' by unfold Fits at hfx; omega)
              have Hy := hide (trueLit_pos hq hy)
              have hx1 : x - 1 < (n' : Int) := by unfold Fits at hfx; omega
              have hx2 : 1 ≤ x := by omega
              have hx3 : ¬ x < 0 := by omega
              rw [show q = x.toNat - 1 from by omega] at hcy
              clear hfx hy hq
              cases y <;>
              · go_wp2
                go_round
                case rel => exact ⟨kk + 1, _, by omega, by go_num, rfl, by rw [Hrel2.out, Hy.out]; rfl⟩
                case measure => simp [intOf]; omega
            · obtain ⟨q, hq⟩ : ∃ q : Nat, x = -((q : Int) + 1) := ⟨(-x - 1).toNat, by unfold Fits at hfx; omega⟩
              obtain ⟨bm, om, y, rfl, hy, hcy⟩ := hm.bool (show q < n' by unfold Fits at hfx; omega)
              have Hy := hide (trueLit_neg hq hy)
              have hx1 : -x - 1 < (n' : Int) := by unfold Fits at hfx; omega
              have hx2 : 1 ≤ -x := by omega
              have hx3 : x < 0 := by omega
              have hx4 : 0 ≤ -x := by omega
              rw [show q = (-x).toNat - 1 from by omega] at hcy
              clear hfx hy hq
              cases y <;>
              · go_wp2
                go_round
                case rel => exact ⟨kk + 1, _, by omega, by go_num, rfl, by rw [Hrel2.out, Hy.out]; rfl⟩
                case measure => simp [intOf]; omega
        · have Hany := hide (show l.any (trueLit m) = sb by rw [hrel2, List.drop_of_length_le (by rw [Hl1.out]; omega)]; simp)
          clear hrel2
          cases sb with
          | true =>
            go_wp2
            go_round
            case rel => exact ⟨k + 1, by omega, by go_num, by rw [Hrel.out, Hd.out, trueAll, List.all_cons, Hany.out, Bool.true_and]; rfl⟩
            case measure => simp [intOf]; omega
          | false =>
            go_wp2
            go_ret
            exact ⟨ret_bool (by rw [Hrel.out, Hd.out, trueAll, List.all_cons, Hany.out, Bool.false_and]), rfl⟩
    · go_wp2
      go_ret
      refine ⟨ret_bool ?_, rfl⟩
      rw [Hrel.out, List.drop_of_length_le (by rw [Hl.out]; omega)]
      rfl
end Go.Proofs.Ytnfeknfakkdbhaa
