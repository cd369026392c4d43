/- Contracts of the small functions of the reference helmsmanref1: At, In, Has, Ints, Subset. -/
import Derived.Test.YtnfeknfakkdbhaaBase
namespace Go.Proofs.Ytnfeknfakkdbhaa
open Go.RowKit

def fault (c i : Int) : Value := .agg #[.int .i64 c, .int .i64 i]

theorem At_ct (c i : Int) (w : World) : Calls Try.prog 20 #[.int .i64 c, .int .i64 i] w (Gives w (fault c i)) := by
  go_enter Try.func20, Try.ntmps20
  go_wp2
  exact bodyPost_ret (v := .agg #[.int .i64 c, .int .i64 i]) (by simp [results, Try.results20, go_sem]) rfl ⟨rfl, (Below.refl _ _).alloc (Nat.le_refl _) _⟩

def inB (n lo hi : Int) : Bool := decide (lo ≤ n) && decide (n ≤ hi)
theorem inB_iff {n lo hi : Int} : inB n lo hi = true ↔ lo ≤ n ∧ n ≤ hi := by simp [inB]
theorem inB_no {n lo hi : Int} : inB n lo hi = false ↔ n < lo ∨ hi < n := by
  rw [← Bool.not_eq_true, inB_iff]; omega
theorem In_ct (n lo hi : Int) (w : World) : Calls Try.prog 37 #[.int .i64 n, .int .i64 lo, .int .i64 hi] w (Same w (.bool (inB n lo hi))) := by
  by_cases h1 : lo ≤ n
  · go_enter Try.func37, Try.ntmps37
    go_wp2
    go_ret
    exact ⟨ret_bool (by simp [inB, h1]), rfl⟩
  · have h2 : n < lo := by omega
    clear h1
    go_enter Try.func37, Try.ntmps37
    go_wp2
    go_ret
    exact ⟨ret_bool (by rw [eq_comm, inB_no]; omega), rfl⟩

def hasB (l : List Int) (n : Int) : Bool := l.contains n
theorem hasB_cons (x : Int) (l : List Int) (n : Int) : hasB (x :: l) n = ((x == n) || hasB l n) := by
  simp only [hasB, List.contains_cons]
  rw [BEq.comm]
theorem hasB_iff {l : List Int} {n : Int} : hasB l n = true ↔ n ∈ l := by simp [hasB]
theorem Has_ct (A : Option Addr) (n c : Nat) (xs : List Int) (y : Int) (w : World) (h : Rd Enc.int w A n c xs) :
    Calls Try.prog 62 #[.slice A n c, .int .i64 y] w (Same w (.bool (hasB xs y))) := by
  have hsm := h.low
  go_enter Try.func62, Try.ntmps62
  go_wp2
  go_loop [5] (fun i => ∃ k : Nat, k ≤ n ∧ i = .int .i64 k ∧ hasB xs y = hasB (xs.drop k) y) (fun i => n - (intOf i).toNat)
  case atStart => exact ⟨0, by omega, rfl, by simp⟩
  case round =>
    obtain ⟨k, hk, rfl, hrel⟩ := hrel
    have Hrel := Lib.hid hrel
    clear hrel
    by_cases hlt : k < n
    · obtain ⟨b, off, x, rfl, hx, hx1, hx2, hcx⟩ := h.int hlt
      have Hd := Lib.hid (drop_cons hx)
      clear hx
      go_wp2
      · go_ret
        refine ⟨ret_bool ?_, rfl⟩
        rw [Hrel.out, Hd.out, hasB_cons]
        simp [*]
      · go_round
        case rel =>
          refine ⟨k + 1, by omega, by go_num, ?_⟩
          rw [Hrel.out, Hd.out, hasB_cons]
          simp [*]
        case measure => simp [intOf]; omega
    · go_wp2
      go_ret
      refine ⟨ret_bool ?_, rfl⟩
      rw [Hrel.out, List.drop_of_length_le (by rw [h.len]; omega)]
      rfl

def intsB (a b : List Int) : Bool := decide (a = b)
theorem take_eq_step {α : Type} {a b : List α} {k : Nat} {x y : α} (h : a.take k = b.take k) (hx : a[k]? = some x) (hy : b[k]? = some y) (e : x = y) : a.take (k + 1) = b.take (k + 1) := by
  rw [List.take_add_one, List.take_add_one, h, hx, hy, e]
theorem Ints_ct (A B : Option Addr) (n c m d : Nat) (xs ys : List Int) (w : World) (h : Rd Enc.int w A n c xs) (g : Rd Enc.int w B m d ys) :
    Calls Try.prog 28 #[.slice A n c, .slice B m d] w (Quiet w (.bool (intsB xs ys))) := by
  have hsm := h.low
  have gsm := g.low
  by_cases hnm : n = m
  · subst hnm
    go_enter Try.func28, Try.ntmps28
    go_wp2
    go_loopw [5] (fun i wr => ∃ k : Nat, k ≤ n ∧ i = .int .i64 k ∧ Qt w wr ∧ xs.take k = ys.take k) (fun i _ => n - (intOf i).toNat)
    case atStart => exact ⟨0, by omega, rfl, Qt.refl _, by simp⟩
    case round =>
      obtain ⟨k, hk, rfl, hq, hrel⟩ := hrel
      have Hrel := Lib.hid hrel
      clear hrel
      by_cases hlt : k < n
      · obtain ⟨b, off, x, rfl, hx, hx1, hx2, hcx⟩ := (h.qt hq).int hlt
        obtain ⟨b', off', y, rfl, hy, hy1, hy2, hcy⟩ := (g.qt hq).int hlt
        have Hx := Lib.hid hx
        have Hy := Lib.hid hy
        clear hx hy
        go_wp2
        go_quiet (fail)
        go_wp2
        · go_ret
          refine ⟨ret_bool ?_, hq.drewN _⟩
          have hne' : (x != y) = true := by assumption
          have hne : ¬ x = y := by simpa using hne'
          simp only [intsB, eq_comm (a := false), decide_eq_false_iff_not]
          rintro rfl
          exact hne (Option.some.inj (Hx.out.symm.trans Hy.out))
        · go_roundw
          case rel =>
            have hne' : (x != y) = false := by assumption
            exact ⟨k + 1, by omega, by go_num, hq.drewN _, take_eq_step Hrel.out Hx.out Hy.out (by simpa using hne')⟩
          case measure => simp [intOf]; omega
      · go_wp2
        go_ret
        refine ⟨ret_bool ?_, hq⟩
        have e := Hrel.out
        rw [List.take_of_length_le (by rw [h.len]; omega), List.take_of_length_le (by rw [g.len]; omega)] at e
        simp [intsB, e]
  · have hne : ((n : Int) != (m : Int)) = true := by rw [bne_iff_ne]; omega
    go_enter Try.func28, Try.ntmps28
    go_wp2
    go_ret
    refine ⟨ret_bool ?_, Qt.refl _⟩
    simp only [intsB, eq_comm (a := false), decide_eq_false_iff_not]
    rintro rfl
    exact hnm (h.len.symm.trans g.len)

def subsetB (a b : List Int) : Bool := a.all (hasB b)
theorem Subset_ct (A B : Option Addr) (n c m d : Nat) (xs ys : List Int) (w : World) (h : Rd Enc.int w A n c xs) (g : Rd Enc.int w B m d ys) :
    Calls Try.prog 43 #[.slice A n c, .slice B m d] w (Quiet w (.bool (subsetB xs ys))) := by
  have hsm := h.low
  go_enter Try.func43, Try.ntmps43
  go_wp2
  go_loopw [5] (fun i wr => ∃ k : Nat, k ≤ n ∧ i = .int .i64 k ∧ Qt w wr ∧ subsetB xs ys = subsetB (xs.drop k) ys) (fun i _ => n - (intOf i).toNat)
  case atStart => exact ⟨0, by omega, rfl, Qt.refl _, by simp⟩
  case round =>
    obtain ⟨k, hk, rfl, hq, hrel⟩ := hrel
    have Hrel := Lib.hid hrel
    clear hrel
    by_cases hlt : k < n
    · obtain ⟨b, off, x, rfl, hx, hx1, hx2, hcx⟩ := (h.qt hq).int hlt
      have Hd := Lib.hid (drop_cons hx)
      clear hx
      go_wp2_with (go_at_call 62; refine (Has_ct _ _ _ _ _ _ (g.qt hq)).mono ?_; rintro e w1 ⟨rfl, rfl⟩)
      · go_ret
        refine ⟨ret_bool ?_, hq⟩
        rw [Hrel.out, Hd.out]
        have hh : (!hasB ys x) = true := by assumption
        simp only [Bool.not_eq_true'] at hh
        simp [subsetB, hh]
      · go_roundw
        case rel =>
          refine ⟨k + 1, by omega, by go_num, hq, ?_⟩
          rw [Hrel.out, Hd.out]
          have hh : (!hasB ys x) = false := by assumption
          simp only [Bool.not_eq_false'] at hh
          simp [subsetB, hh]
        case measure => simp [intOf]; omega
    · go_wp2
      go_ret
      refine ⟨ret_bool ?_, hq⟩
      rw [Hrel.out, List.drop_of_length_le (by rw [h.len]; omega)]
      rfl
end Go.Proofs.Ytnfeknfakkdbhaa
