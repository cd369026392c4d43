/- What the law asks for, part 5: Cl Cl3. -/
import Derived.Test.YtemiecammmbjdaaGreatL1
import Derived.Test.YtemiecammmbjdaaGreatL2
import Derived.BigQuiet
import Derived.Deep.AppendLies
import Derived.Deep.Draws
import Derived.Deep.Fields
import Derived.Deep.LoopGhost
import Derived.Deep.QuietTactic
import Derived.Deep.Slices
import Derived.Laws.AppendOwnNone
import Derived.Laws.OwnMore
import Derived.Lib.Hide
import Derived.Test.YtemiecammmbjdaaGreatProg
import Derived.WalkKit
import Init
namespace Go.Proofs.YtemiecammmbjdaaGreat
open Go.RowKit
theorem Variable_ct (x : Int) (w : World) (h : -9223372036854775808 < x) (h' : x ≤ 9223372036854775807) : Calls Tryz.prog 72 #[.int .i64 x] w (Same w (.int .i64 (litVar x))) := by
  go_enter Tryz.func72, Tryz.ntmps72
  go_wp2
  all_goals
    go_ret
    refine ⟨?_, rfl⟩
    first
      | exact ret_int (show -x = litVar x by unfold litVar; omega)
      | exact ret_int (show x = litVar x by unfold litVar; omega)

theorem Tryz.intInfo : (Tryz.prog.info? 3).map (fun i => (i.zero, i.size, i.bytes)) = some (some (.int .i64 0), 1, 8) := by kernel_rfl

/-- nothing handed back -/
def Ends (e : Ending) : Prop := e = .returned (.tuple #[])

end Go.Proofs.YtemiecammmbjdaaGreat
namespace Go.Proofs.YtemiecammmbjdaaGreat
open Go.RowKit
theorem litVar_at {m : List Bool} {x : Int} {q : Nat} {y : Bool} (hq : (q : Int) = litVar x) (hy : m[q - 1]? = some y) : trueLit m x = (y == decide (0 < x)) := by
  rw [trueLit, ← hq, Int.toNat_natCast, List.getD_eq_getElem?_getD, hy, Option.getD_some]

theorem Variable_at {x : Int} {q : Nat} (hq : (q : Int) = litVar x) (w : World) (h : -9223372036854775808 < x) (h' : x ≤ 9223372036854775807) : Calls Tryz.prog 72 #[.int .i64 x] w (Same w (.int .i64 (q : Int))) := by
  rw [hq]
  exact Variable_ct x w h h'
set_option maxHeartbeats 400000 in
theorem trueFn_ct (g : Nat) (A : Option Addr) (n c : Nat) (m : List Bool) (x : Int) (w : World) (hc : w.cell? ⟨g, 0, none⟩ = some (.slice A n c)) (h : Rd Enc.bool w A n c m) (hn : n ≤ 1000) (hx : Fits n x) :
    Calls Tryz.prog 71 #[.int .i64 x, .pointer (some ⟨g, 0, none⟩)] w (Quiet w (.bool (trueLit m x))) := by
  have hxv := hx.var
  have hx1 := hx.2.1
  have hx2 := hx.2.2
  obtain ⟨q, hq⟩ : ∃ q : Nat, (q : Int) = litVar x := ⟨(litVar x).toNat, by omega⟩
  obtain ⟨q, rfl⟩ : ∃ j, q = j + 1 := ⟨q - 1, by omega⟩
  obtain ⟨b, off, y, rfl, hy, hcy⟩ := h.bool (show q < n by omega)
  have Hy := hide (litVar_at hq hy)
  have HV := hide hq
  have hqn : q < n := by omega
  clear hy hq
  go_enter Tryz.func71, Tryz.ntmps71
  go_wp2
  go_quiet ((go_at_call 72; exact same_call (Variable_at HV.out _ (by omega) (by omega))))
  go_wp2
  go_ret
  exact ⟨ret_bool Hy.out.symm, _, rfl⟩

/-- slices.IndexFunc at this closure: the first place where it holds -/
def firstTrue (m : List Bool) : Nat → List Int → Int
  | _, [] => -1
  | k, x :: xs => if trueLit m x = true then k else firstTrue m (k + 1) xs
theorem firstTrue_sign (m : List Bool) (k : Nat) (xs : List Int) : decide (0 ≤ firstTrue m k xs) = xs.any (trueLit m) := by
  induction xs generalizing k with
  | nil => simp [firstTrue]
  | cons x xs ih =>
    unfold firstTrue
    by_cases h : trueLit m x = true
    · simp [h]
    · rw [if_neg h, ih]
      simp [h]

set_option maxHeartbeats 400000 in
theorem trueIndex_ct (g : Nat) (A B : Option Addr) (n c n' c' : Nat) (m : List Bool) (xs : List Int) (w : World) (hc : w.cell? ⟨g, 0, none⟩ = some (.slice A n c)) (h : Rd Enc.bool w A n c m) (hn : n ≤ 1000)
    (hx : Rd Enc.int w B n' c' xs) (hf : ∀ x ∈ xs, Fits n x) :
    Calls Tryz.prog 106 #[.slice B n' c', .func (.func 71) #[] #[.pointer (some ⟨g, 0, none⟩)]] w (Quiet w (.int .i64 (firstTrue m 0 xs))) := by
  have hsm := hx.low
  have Hl := hide hx.len
  have Hf := hide hf
  clear hf
  go_enter Tryz.func106, Tryz.ntmps106
  go_wp2
  go_loopw [8] (fun i wr => ∃ k : Nat, k ≤ n' ∧ i = .int .i64 k ∧ Qt w wr ∧ firstTrue m 0 xs = firstTrue m k (xs.drop k)) (fun i _ => n' - (intOf i).toNat)
  case atStart => exact ⟨0, by omega, rfl, Qt.refl _, by simp⟩
  case round =>
    obtain ⟨k, hk, rfl, ⟨d, rfl⟩, hrel⟩ := hrel
    by_cases hlt : k < n'
    · obtain ⟨b, off, x, rfl, hxx, hxl, hxh, hcx⟩ := hx.int hlt
      rw [drop_cons hxx] at hrel
      have Hfx := hide (Hf.out x (List.mem_of_getElem? hxx))
      have Hrel := hide hrel
      clear hrel hxx
      go_wp2_with fail
      refine (trueFn_ct g A n c m x _ (by exact hc) (by exact h.qt ⟨d, rfl⟩) hn Hfx.out).mono ?_
      rintro e w1 ⟨rfl, d1, rfl⟩
      go_wp2
      · have hh : trueLit m x = true := by assumption
        go_ret
        exact ⟨ret_int (by rw [Hrel.out, firstTrue, if_pos hh]), d + d1, rfl⟩
      · have hh : trueLit m x = false := by assumption
        go_roundw
        case rel => exact ⟨k + 1, by omega, by go_num, ⟨d + d1, rfl⟩, by rw [Hrel.out, firstTrue, if_neg (by simp [hh])]⟩
        case measure => simp [intOf]; omega
    · have Hrel := hide hrel
      clear hrel
      go_wp2
      go_ret
      refine ⟨ret_int ?_, d, rfl⟩
      rw [Hrel.out, List.drop_of_length_le (by rw [Hl.out]; omega), firstTrue]

set_option maxHeartbeats 400000 in
theorem trueAny_ct (g : Nat) (A B : Option Addr) (n c n' c' : Nat) (m : List Bool) (xs : List Int) (w : World) (hc : w.cell? ⟨g, 0, none⟩ = some (.slice A n c)) (h : Rd Enc.bool w A n c m) (hn : n ≤ 1000)
    (hx : Rd Enc.int w B n' c' xs) (hf : ∀ x ∈ xs, Fits n x) :
    Calls Tryz.prog 70 #[.slice B n' c', .func (.func 71) #[] #[.pointer (some ⟨g, 0, none⟩)]] w (Quiet w (.bool (xs.any (trueLit m)))) := by
  have Hf := hide hf
  clear hf
  go_enter Tryz.func70, Tryz.ntmps70
  go_wp2_with fail
  refine (trueIndex_ct g A B n c n' c' m xs _ hc h hn hx Hf.out).mono ?_
  rintro e w1 ⟨rfl, d1, rfl⟩
  go_wp2
  go_ret
  exact ⟨ret_bool (firstTrue_sign m 0 xs), d1, rfl⟩

set_option maxHeartbeats 800000 in
theorem True_ct (A B : Option Addr) (n c n' c' : Nat) (cs : List (List Int)) (m : List Bool) (w : World) (h : Rd (Enc.sl Enc.int) w A n c cs) (hm : Rd Enc.bool w B n' c' m) (hn : n' ≤ 1000) (hf : ∀ l ∈ cs, ∀ x ∈ l, Fits n' x) :
    Calls Tryz.prog 40 #[.slice A n c, .slice B n' c'] w (Gives w (.bool (trueAll cs m))) := by
  have hsm := h.low
  have Hl := hide h.len
  have Hf := hide hf
  clear hf
  have hw2 : Below w.heap.size w (w.alloc (.cells #[.slice B n' c'] 51)) := (Below.refl _ _).alloc (Nat.le_refl _) _
  have Hw2 := hide hw2
  have HB := hide (Blk.new w 51 [.slice B n' c'])
  have hmf : ∀ (fn : Fn) (first cap : Array Value) (w : World), (Instr.makeFunc fn first cap).run Tryz.prog w = .ok (.func fn first cap) w := fun _ _ _ _ => rfl
  clear hw2
  go_enter Tryz.func40, Tryz.ntmps40
  go_wp2
  go_loopw [9] (fun i wr => ∃ k : Nat, k ≤ n ∧ i = .int .i64 k ∧ Qt (w.alloc (.cells #[.slice B n' c'] 51)) wr ∧ trueAll cs m = trueAll (cs.drop k) m) (fun i _ => n - (intOf i).toNat)
  case atStart => exact ⟨0, by omega, rfl, Qt.refl _, by simp⟩
  case round =>
    obtain ⟨k, hk, rfl, ⟨d, rfl⟩, hrel⟩ := hrel
    have Hrel := hide hrel
    clear hrel
    by_cases hlt : k < n
    · obtain ⟨b, off, l, A', n1, c1, rfl, hl, hcx, hrx⟩ := (h.keep (below_drewN Hw2.out d)).sl hlt
      have Hd := hide (drop_cons hl)
      have Hfl := hide (Hf.out l (List.mem_of_getElem? hl))
      have hcx := hcx
      rw [World.cell?_drewN] at hcx
      clear hl
      go_wp2_with fail
      refine (trueAny_ct w.heap.size B A' n' c' n1 c1 m l _ (by exact HB.out.cell 0) (by exact hm.keep (below_drewN Hw2.out d)) hn (by exact hrx) Hfl.out).mono ?_
      rintro e w1 ⟨rfl, d1, rfl⟩
      go_wp2
      · have hh : (!l.any (trueLit m)) = true := by assumption
        simp only [Bool.not_eq_true'] at hh
        go_ret
        refine ⟨ret_bool ?_, below_drewN Hw2.out _⟩
        rw [Hrel.out, Hd.out, trueAll, List.all_cons, hh, Bool.false_and]
      · have hh : (!l.any (trueLit m)) = false := by assumption
        simp only [Bool.not_eq_false'] at hh
        go_roundw
        case rel => exact ⟨k + 1, by omega, by go_num, ⟨d + d1, rfl⟩, by rw [Hrel.out, Hd.out, trueAll, List.all_cons, hh, Bool.true_and]; rfl⟩
        case measure => simp [intOf]; omega
    · go_wp2
      go_ret
      refine ⟨ret_bool ?_, below_drewN Hw2.out d⟩
      rw [Hrel.out, List.drop_of_length_le (by rw [Hl.out]; omega)]
      rfl


end Go.Proofs.YtemiecammmbjdaaGreat
