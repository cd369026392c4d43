/- Contracts of clauses.True, Holds and Propagate. -/
import Derived.Test.YtnfeknfakkdbhaaCl2
namespace Go.Proofs.Ytnfeknfakkdbhaa
open Go.RowKit

theorem litVar_at {m : List Bool} {x : Int} {q : Nat} {y : Bool} (hq : (q : Int) = litVar x) (hy : m[q - 1]? = some y) : trueLit m x = (y == decide (0 < x)) := by
  rw [trueLit, ← hq, Int.toNat_natCast, List.getD_eq_getElem?_getD, hy, Option.getD_some]

theorem Variable_at {x : Int} {q : Nat} (hq : (q : Int) = litVar x) (w : World) (h : -9223372036854775808 < x) (h' : x ≤ 9223372036854775807) : Calls Try.prog 106 #[.int .i64 x] w (Same w (.int .i64 (q : Int))) := by
  rw [hq]
  exact Variable_ct x w h h'
set_option maxHeartbeats 400000 in
theorem trueFn_ct (g : Nat) (A : Option Addr) (n c : Nat) (m : List Bool) (x : Int) (w : World) (hc : w.cell? ⟨g, 0, none⟩ = some (.slice A n c)) (h : Rd Enc.bool w A n c m) (hn : n ≤ 1000) (hx : Fits n x) :
    Calls Try.prog 109 #[.int .i64 x, .pointer (some ⟨g, 0, none⟩)] w (Quiet w (.bool (trueLit m x))) := by
  have hxv := hx.var
  have hx1 := hx.2.1
  have hx2 := hx.2.2
  obtain ⟨q, hq⟩ : ∃ q : Nat, (q : Int) = litVar x := ⟨(litVar x).toNat, by omega⟩
  obtain ⟨q, rfl⟩ : ∃ j, q = j + 1 := ⟨q - 1, by omega⟩
  obtain ⟨b, off, y, rfl, hy, hcy⟩ := h.bool (show q < n by omega)
  have Hy := hide (litVar_at hq hy)
  have HV := hide hq
  have hqn : q < n := by omega
  clear hy hq
  go_enter Try.func109, Try.ntmps109
  go_wp2
  go_quiet ((go_at_call 106; exact same_call (Variable_at HV.out _ (by omega) (by omega))))
  go_wp2
  go_ret
  exact ⟨ret_bool Hy.out.symm, _, rfl⟩

/-- slices.IndexFunc at this closure: the first place where it holds -/
def firstTrue (m : List Bool) : Nat → List Int → Int
  | _, [] => -1
  | k, x :: xs => if trueLit m x = true then k else firstTrue m (k + 1) xs
theorem firstTrue_sign (m : List Bool) (k : Nat) (xs : List Int) : decide (0 ≤ firstTrue m k xs) = xs.any (trueLit m) := by
  induction xs generalizing k with
  | nil => simp [firstTrue]
  | cons x xs ih =>
    unfold firstTrue
    by_cases h : trueLit m x = true
    · simp [h]
    · rw [if_neg h, ih]
      simp [h]

set_option maxHeartbeats 400000 in
theorem trueIndex_ct (g : Nat) (A B : Option Addr) (n c n' c' : Nat) (m : List Bool) (xs : List Int) (w : World) (hc : w.cell? ⟨g, 0, none⟩ = some (.slice A n c)) (h : Rd Enc.bool w A n c m) (hn : n ≤ 1000)
    (hx : Rd Enc.int w B n' c' xs) (hf : ∀ x ∈ xs, Fits n x) :
    Calls Try.prog 115 #[.slice B n' c', .func (.func 109) #[] #[.pointer (some ⟨g, 0, none⟩)]] w (Quiet w (.int .i64 (firstTrue m 0 xs))) := by
  have hsm := hx.low
  have Hl := hide hx.len
  have Hf := hide hf
  clear hf
  go_enter Try.func115, Try.ntmps115
  go_wp2
  go_loopw [8] (fun i wr => ∃ k : Nat, k ≤ n' ∧ i = .int .i64 k ∧ Qt w wr ∧ firstTrue m 0 xs = firstTrue m k (xs.drop k)) (fun i _ => n' - (intOf i).toNat)
  case atStart => exact ⟨0, by omega, rfl, Qt.refl _, by simp⟩
  case round =>
    obtain ⟨k, hk, rfl, ⟨d, rfl⟩, hrel⟩ := hrel
    by_cases hlt : k < n'
    · obtain ⟨b, off, x, rfl, hxx, hxl, hxh, hcx⟩ := hx.int hlt
      rw [drop_cons hxx] at hrel
      have Hfx := hide (Hf.out x (List.mem_of_getElem? hxx))
      have Hrel := hide hrel
      clear hrel hxx
      go_wp2_with fail
      refine (trueFn_ct g A n c m x _ (by exact hc) (by exact h.qt ⟨d, rfl⟩) hn Hfx.out).mono ?_
      rintro e w1 ⟨rfl, d1, rfl⟩
      go_wp2
      · have hh : trueLit m x = true := by assumption
        go_ret
        exact ⟨ret_int (by rw [Hrel.out, firstTrue, if_pos hh]), d + d1, rfl⟩
      · have hh : trueLit m x = false := by assumption
        go_roundw
        case rel => exact ⟨k + 1, by omega, by go_num, ⟨d + d1, rfl⟩, by rw [Hrel.out, firstTrue, if_neg (by simp [hh])]⟩
        case measure => simp [intOf]; omega
    · have Hrel := hide hrel
      clear hrel
      go_wp2
      go_ret
      refine ⟨ret_int ?_, d, rfl⟩
      rw [Hrel.out, List.drop_of_length_le (by rw [Hl.out]; omega), firstTrue]

set_option maxHeartbeats 400000 in
theorem trueAny_ct (g : Nat) (A B : Option Addr) (n c n' c' : Nat) (m : List Bool) (xs : List Int) (w : World) (hc : w.cell? ⟨g, 0, none⟩ = some (.slice A n c)) (h : Rd Enc.bool w A n c m) (hn : n ≤ 1000)
    (hx : Rd Enc.int w B n' c' xs) (hf : ∀ x ∈ xs, Fits n x) :
    Calls Try.prog 93 #[.slice B n' c', .func (.func 109) #[] #[.pointer (some ⟨g, 0, none⟩)]] w (Quiet w (.bool (xs.any (trueLit m)))) := by
  have Hf := hide hf
  clear hf
  go_enter Try.func93, Try.ntmps93
  go_wp2_with fail
  refine (trueIndex_ct g A B n c n' c' m xs _ hc h hn hx Hf.out).mono ?_
  rintro e w1 ⟨rfl, d1, rfl⟩
  go_wp2
  go_ret
  exact ⟨ret_bool (firstTrue_sign m 0 xs), d1, rfl⟩

set_option maxHeartbeats 800000 in
theorem True_ct (A B : Option Addr) (n c n' c' : Nat) (cs : List (List Int)) (m : List Bool) (w : World) (h : Rd (Enc.sl Enc.int) w A n c cs) (hm : Rd Enc.bool w B n' c' m) (hn : n' ≤ 1000) (hf : ∀ l ∈ cs, ∀ x ∈ l, Fits n' x) :
    Calls Try.prog 79 #[.slice A n c, .slice B n' c'] w (Gives w (.bool (trueAll cs m))) := by
  have hsm := h.low
  have Hl := hide h.len
  have Hf := hide hf
  clear hf
  have hw2 : Below w.heap.size w (w.alloc (.cells #[.slice B n' c'] 52)) := (Below.refl _ _).alloc (Nat.le_refl _) _
  have Hw2 := hide hw2
  have HB := hide (Blk.new w 52 [.slice B n' c'])
  have hmf : ∀ (fn : Fn) (first cap : Array Value) (w : World), (Instr.makeFunc fn first cap).run Try.prog w = .ok (.func fn first cap) w := fun _ _ _ _ => rfl
  clear hw2
  go_enter Try.func79, Try.ntmps79
  go_wp2
  go_loopw [9] (fun i wr => ∃ k : Nat, k ≤ n ∧ i = .int .i64 k ∧ Qt (w.alloc (.cells #[.slice B n' c'] 52)) wr ∧ trueAll cs m = trueAll (cs.drop k) m) (fun i _ => n - (intOf i).toNat)
  case atStart => exact ⟨0, by omega, rfl, Qt.refl _, by simp⟩
  case round =>
    obtain ⟨k, hk, rfl, ⟨d, rfl⟩, hrel⟩ := hrel
    have Hrel := hide hrel
    clear hrel
    by_cases hlt : k < n
    · obtain ⟨b, off, l, A', n1, c1, rfl, hl, hcx, hrx⟩ := (h.keep (below_drewN Hw2.out d)).sl hlt
      have Hd := hide (drop_cons hl)
      have Hfl := hide (Hf.out l (List.mem_of_getElem? hl))
      have hcx := hcx
      rw [World.cell?_drewN] at hcx
      clear hl
      go_wp2_with fail
      refine (trueAny_ct w.heap.size B A' n' c' n1 c1 m l _ (by exact HB.out.cell 0) (by exact hm.keep (below_drewN Hw2.out d)) hn (by exact hrx) Hfl.out).mono ?_
      rintro e w1 ⟨rfl, d1, rfl⟩
      go_wp2
      · have hh : (!l.any (trueLit m)) = true := by assumption
        simp only [Bool.not_eq_true'] at hh
        go_ret
        refine ⟨ret_bool ?_, below_drewN Hw2.out _⟩
        rw [Hrel.out, Hd.out, trueAll, List.all_cons, hh, Bool.false_and]
      · have hh : (!l.any (trueLit m)) = false := by assumption
        simp only [Bool.not_eq_false'] at hh
        go_roundw
        case rel => exact ⟨k + 1, by omega, by go_num, ⟨d + d1, rfl⟩, by rw [Hrel.out, Hd.out, trueAll, List.all_cons, hh, Bool.true_and]; rfl⟩
        case measure => simp [intOf]; omega
    · go_wp2
      go_ret
      refine ⟨ret_bool ?_, below_drewN Hw2.out d⟩
      rw [Hrel.out, List.drop_of_length_le (by rw [Hl.out]; omega)]
      rfl

theorem Validate_at {v : Int} {cs : List (List Int)} {ec ei : Int} (he : cnfFault v cs = (ec, ei)) (A : Option Addr) (n c : Nat) (w : World) (hv1 : -9223372036854775808 ≤ v) (hv2 : v ≤ 9223372036854775807) (h : Rd (Enc.sl Enc.int) w A n c cs) :
    Calls Try.prog 67 #[.agg #[.int .i64 v, .slice A n c]] w (Gives w (.agg #[.int .i64 ec, .int .i64 ei])) := by
  have := Validate_ct v A n c cs w hv1 hv2 h
  rw [he] at this
  exact this

/-- what Holds answers -/
def holdsR (v : Int) (cs : List (List Int)) (m : List Bool) : Bool × Int × Int :=
  if (cnfFault v cs).1 ≠ 0 then (false, cnfFault v cs) else if (m.length : Int) ≠ v then (false, 9, -2) else (trueAll cs m, 0, 0)
def holdsV (r : Bool × Int × Int) : Value := .tuple #[.bool r.1, .agg #[.int .i64 r.2.1, .int .i64 r.2.2]]

set_option maxHeartbeats 800000 in
theorem Holds_ct (v : Int) (A B : Option Addr) (n c n' c' : Nat) (cs : List (List Int)) (m : List Bool) (w : World) (hv1 : -9223372036854775808 ≤ v) (hv2 : v ≤ 9223372036854775807) (h : Rd (Enc.sl Enc.int) w A n c cs) (hm : Rd Enc.bool w B n' c' m) :
    Calls Try.prog 40 #[.agg #[.int .i64 v, .slice A n c], .slice B n' c'] w (Gives w (holdsV (holdsR v cs m))) := by
  have hsm := hm.low
  have Hl := hide hm.len
  obtain ⟨hB1, hB2, hbw⟩ := boxed2 w 51 29 [.int .i64 v, .slice A n c] [.int .i64 0, .int .i64 0]
  have h2 := h.keep hbw
  have hm2 := hm.keep hbw
  have Hb := hide hbw
  have H1 := hide hB1
  have H2 := hide hB2
  clear hbw hB1 hB2
  rcases hcf : cnfFault v cs with ⟨ec, ei⟩
  have Hcf := hide hcf
  clear hcf
  by_cases hec : ec = 0
  · have hz := cnfFault_zero (v := v) (cs := cs) (by rw [Hcf.out]; exact hec)
    rw [Hcf.out] at hz
    injection hz with hz1 hz2
    subst hz1 hz2
    go_enter Try.func40, Try.ntmps40
    go_wp2_with fail
    refine (Validate_at Hcf.out _ _ _ _ hv1 hv2 (by exact h2)).mono ?_
    rintro e w1 ⟨rfl, hb1⟩
    have hz : w.heap.size + 1 < w1.heap.size := by have := hb1.size; simp at this; omega
    have hz0 : w.heap.size < w1.heap.size := by omega
    obtain ⟨hc1, hc2⟩ := (H1.out.keep hb1).cell2
    have hB2 := H2.out.keep hb1
    obtain ⟨hd1, hd2⟩ := hB2.cell2
    have hf1 := hB2.frozen 0
    have hf2 := hB2.frozen 1
    clear hB2
    have Hb1 := hide hb1
    clear hb1
    go_wp2_with fail
    · have hh : ((n' : Int) != v) = true := by assumption
      have hh := bne_iff_ne.1 hh
      have hr : holdsR v cs m = (false, 9, -2) := by rw [holdsR, Hcf.out, if_neg (by simp), if_pos (by rw [Hl.out]; exact hh)]
      refine bodyPost_ret (v := holdsV (false, 9, -2)) (by simp [results, Try.results40, go_sem, holdsV, hd1, hd2, hz]) rfl ⟨by rw [hr], ?_⟩
      exact below_res2_alloc (Hb.out.trans (Hb1.out.mono Hb.out.size)) (show w.heap.size ≤ w1.heap.size by omega) (show w.heap.size ≤ w.heap.size + 1 by omega) _ _ _
    · have hh : ((n' : Int) != v) = false := by assumption
      have hh := bne_eq_false_iff_eq.1 hh
      have hok := (cnfFault_ok (v := v) (cs := cs)).1 (by rw [Hcf.out])
      have hr : holdsR v cs m = (trueAll cs m, 0, 0) := by rw [holdsR, Hcf.out, if_neg (by simp), if_neg (by rw [Hl.out]; exact fun h => h hh)]
      have Hr := hide hr
      have Hok := hide hok
      clear hr hok
      have hB : Below w.heap.size w (w1.alloc (.cells #[.int .i64 0, .int .i64 0] 29)) := (Hb.out.trans (Hb1.out.mono Hb.out.size)).alloc (by omega) _
      have HB := hide hB
      clear hB
      refine (True_ct A B n c n' c' cs m _ (h.keep HB.out) (hm.keep HB.out) (by have := Hok.out.1; omega) (by rw [hh]; exact fun l hl => code_fits (Hok.out.2.2 l hl))).mono ?_
      rintro e w2 ⟨rfl, hb2⟩
      have hzz : w1.heap.size < w2.heap.size := by have := hb2.size; simp at this; omega
      have hz3 : w.heap.size + 1 < w2.heap.size := by omega
      have hB2 := ((H2.out.keep Hb1.out).alloc (.cells #[.int .i64 0, .int .i64 0] 29)).keep hb2
      obtain ⟨hd1, hd2⟩ := hB2.cell2
      have hf1 := hB2.frozen 0
      have hf2 := hB2.frozen 1
      have Hb2 := hide hb2
      clear hB2 hb2
      go_wp2
      refine bodyPost_ret (v := holdsV (trueAll cs m, 0, 0)) (by simp [results, Try.results40, go_sem, holdsV, hd1, hd2]) rfl ⟨by rw [Hr.out], ?_⟩
      exact below_res2 (HB.out.trans (Hb2.out.mono HB.out.size)) (by omega) _ _
  · have hr : holdsR v cs m = (false, ec, ei) := by rw [holdsR, Hcf.out, if_pos hec]
    rw [hr]
    clear hr
    have hne : (ec != 0) = true := by simpa using hec
    go_enter Try.func40, Try.ntmps40
    go_wp2_with fail
    refine (Validate_at Hcf.out _ _ _ _ hv1 hv2 (by exact h2)).mono ?_
    rintro e w1 ⟨rfl, hb1⟩
    have hz : w.heap.size + 1 < w1.heap.size := by have := hb1.size; simp at this; omega
    have hz0 : w.heap.size < w1.heap.size := by omega
    have hB2 := H2.out.keep hb1
    obtain ⟨hd1, hd2⟩ := hB2.cell2
    have hf1 := hB2.frozen 0
    have hf2 := hB2.frozen 1
    clear hB2
    have Hb1 := hide hb1
    clear hb1
    go_wp2_with fail
    go_region
    all_goals go_wp2
    all_goals
      refine bodyPost_ret (v := holdsV (false, ec, ei)) (by simp [results, Try.results40, go_sem, holdsV, hd1, hd2, hz]) rfl ⟨rfl, ?_⟩
      exact (below_res2_alloc (Hb.out.trans (Hb1.out.mono Hb.out.size)) (show w.heap.size ≤ w1.heap.size by omega) (show w.heap.size ≤ w.heap.size + 1 by omega) _ _ _).drew
end Go.Proofs.Ytnfeknfakkdbhaa
