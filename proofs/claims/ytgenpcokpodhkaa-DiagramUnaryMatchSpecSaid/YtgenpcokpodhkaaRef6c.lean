/- Contracts of the reference's functions on truth tables: bit, Bools, Members, Number, increasing. -/
import Derived.Test.YtgenpcokpodhkaaRef1
import Derived.Test.YtgenpcokpodhkaaDgPure
namespace Go.Proofs.Ytgenpcokpodhkaa
set_option linter.unusedVariables false
set_option linter.unusedSimpArgs false
open Go.RowKit

/-- bit v of the n bits of i, the first the greatest -/
def bitB (i v n : Nat) : Bool := (i >>> (n - 1 - v)) % 2 == 1
theorem bitB_int (i m : Nat) : (((i : Int) / 2 ^ m).tmod 2 == 1) = ((i >>> m) % 2 == 1) := by
  rw [Nat.shiftRight_eq_div_pow, show (i : Int) / 2 ^ m = ((i / 2 ^ m : Nat) : Int) from by simp, Int.tmod_eq_emod_of_nonneg (Int.natCast_nonneg _)]
  rw [Bool.eq_iff_iff, beq_iff_eq, beq_iff_eq]
  omega
theorem bit_ct (i v n : Nat) (hv : v < n) (hn : n ≤ 60) (hi : i ≤ 4611686018427387904) (w : World) :
    Calls Try.prog 43 #[.int .i64 i, .int .i64 v, .int .i64 n] w (Same w (.bool (bitB i v n))) := by
  have h1 : IntKind.u64.wrap ((n : Int) - 1 - (v : Int)) = (n : Int) - 1 - (v : Int) := by rw [IntWalk.u64_in _ (by omega)]
  have h2 : (min ((n : Int) - 1 - (v : Int)).toNat 64) = n - 1 - v := by omega
  go_enter Try.func43, Try.ntmps43
  go_wp2
  go_ret
  exact ⟨ret_bool (bitB_int i _), rfl⟩

def boolsB (a b : List Bool) : Bool := decide (a = b)
theorem Bools_ct (A B : Option Addr) (n c m d : Nat) (xs ys : List Bool) (w : World) (h : Rd Enc.bool w A n c xs) (g : Rd Enc.bool w B m d ys) :
    Calls Try.prog 71 #[.slice A n c, .slice B m d] w (Quiet w (.bool (boolsB xs ys))) := by
  have hsm := h.low
  have gsm := g.low
  by_cases hnm : n = m
  · subst hnm
    go_enter Try.func71, Try.ntmps71
    go_wp2
    go_loopw [5] (fun i wr => ∃ k : Nat, k ≤ n ∧ i = .int .i64 k ∧ Qt w wr ∧ xs.take k = ys.take k) (fun i _ => n - (intOf i).toNat)
    case atStart => exact ⟨0, by omega, rfl, Qt.refl _, by simp⟩
    case round =>
      obtain ⟨k, hk, rfl, hq, hrel⟩ := hrel
      have Hrel := Lib.hid hrel
      clear hrel
      by_cases hlt : k < n
      · obtain ⟨b, off, x, rfl, hx, hcx⟩ := (h.qt hq).bool hlt
        obtain ⟨b', off', y, rfl, hy, hcy⟩ := (g.qt hq).bool hlt
        have Hx := Lib.hid hx
        have Hy := Lib.hid hy
        clear hx hy
        go_wp2
        go_quiet (fail)
        go_wp2
        · go_ret
          refine ⟨ret_bool ?_, hq.drewN _⟩
          have hne' : (x != y) = true := by assumption
          have hne : ¬ x = y := by simpa using hne'
          simp only [boolsB, eq_comm (a := false), decide_eq_false_iff_not]
          rintro rfl
          exact hne (Option.some.inj (Hx.out.symm.trans Hy.out))
        · go_roundw
          case rel =>
            have hne' : (x != y) = false := by assumption
            exact ⟨k + 1, by omega, by go_num, hq.drewN _, take_eq_step Hrel.out Hx.out Hy.out (by simpa using hne')⟩
          case measure => simp [intOf]; omega
      · go_wp2
        go_ret
        refine ⟨ret_bool ?_, hq⟩
        have e := Hrel.out
        rw [List.take_of_length_le (by rw [h.len]; omega), List.take_of_length_le (by rw [g.len]; omega)] at e
        simp [boolsB, e]
  · have hne : ((n : Int) != (m : Int)) = true := by rw [bne_iff_ne]; omega
    go_enter Try.func71, Try.ntmps71
    go_wp2
    go_ret
    refine ⟨ret_bool ?_, Qt.refl _⟩
    simp only [boolsB, eq_comm (a := false), decide_eq_false_iff_not]
    rintro rfl
    exact hnm (h.len.symm.trans g.len)

def isSet (n : Int) : List Int → Bool
  | [] => true
  | x :: l => inB x 0 (n - 1) && (match l with | [] => true | y :: _ => decide (x < y)) && isSet n l
theorem many_ct (n : Int) (w : World) : Calls Try.prog 12 #[.int .i64 n] w (Same w (.bool (decide (10 < n)))) := by
  go_enter Try.func12, Try.ntmps12
  go_wp2
  go_ret
  exact ⟨rfl, rfl⟩

/-- a list of ints in a row of the call's own -/
def Made (w : World) (l : List Int) (e : Ending) (w' : World) : Prop :=
  Below w.heap.size w w' ∧ ∃ A c, e = .returned (.slice A l.length c) ∧ w'.ownsRow w.heap.size 3 1 (.slice A l.length c) l.length (l.map (Value.int .i64))
theorem intInfo : (Try.prog.info? 3).map (fun i => (i.zero, i.size, i.bytes)) = some (some (.int .i64 0), 1, 8) := by kernel_rfl
theorem boolInfo : (Try.prog.info? 4).map (fun i => (i.zero, i.size, i.bytes)) = some (some (.bool false), 1, 1) := by kernel_rfl

def increI (n : Nat) : List Int := (List.range n).map fun i : Nat => (i : Int) + 2
theorem increI_succ (n : Nat) : increI (n + 1) = increI n ++ [(n : Int) + 2] := by simp [increI, List.range_succ]
theorem increI_len (n : Nat) : (increI n).length = n := by simp [increI]
theorem increasing_ct (n : Nat) (hn : n ≤ 100000) (w : World) : Calls Try.prog 46 #[.int .i64 n] w (Made w (increI n)) := by
  obtain ⟨i0, hi0, hz0, hz1, hz2⟩ := info_parts intInfo
  go_enter Try.func46, Try.ntmps46
  go_wp2
  go_loopw [3, 4] (fun o i wr => ∃ (k : Nat) (O : Option Addr) (oc : Nat), k ≤ n ∧ i = .int .i64 k ∧ o = .slice O k oc ∧ wr.ownsRow w.heap.size 3 1 (.slice O k oc) k ((increI k).map (Value.int .i64)) ∧ Below w.heap.size w wr) (fun _ i _ => n - (intOf i).toNat)
  case atStart => exact ⟨0, none, 0, by omega, rfl, rfl, World.ownsRow_nil _ _ _ _, Below.refl _ _⟩
  case round =>
    obtain ⟨k, O, oc, hk, rfl, rfl, hown, hbr⟩ := hrel
    have Hown := hide hown
    have Hbr := hide hbr
    clear hown hbr
    by_cases hlt : k < n
    · go_wp2_with
        (at_builtin
         refine wpList_push rfl _ _ 48 rfl w.heap.size 3 i0 (.int .i64 0) 1 8 Try.underlying48 hi0 hz0 hz1 hz2 rfl (by decide) _ _ _ rfl Hown.out [.int .i64 ((k : Int) + 2)] rfl (by intro u hu; simp at hu; subst hu; rfl) rfl (by omega) (by omega) Hbr.out.size ?_
         intro O1 oc1 w1 hown1 hb1)
      go_roundw
      case rel => exact ⟨k + 1, O1, oc1, by omega, by go_num, rfl, by rw [increI_succ]; simpa using hown1, Hbr.out.trans hb1⟩
      case measure => simp [intOf]; omega
    · obtain rfl : k = n := by omega
      go_wp2
      go_ret
      refine ⟨Hbr.out, O, oc, by rw [increI_len]; rfl, ?_⟩
      rw [increI_len]
      exact Hown.out

def membK (i n k : Nat) : List Int := ((List.range k).filter fun v => bitB i v n).map fun v : Nat => (v : Int)
def membI (i n : Nat) : List Int := membK i n n
theorem membK_succ (i n k : Nat) : membK i n (k + 1) = membK i n k ++ if bitB i k n = true then [(k : Int)] else [] := by
  unfold membK
  rw [List.range_succ, List.filter_append, List.map_append]
  congr 1
  simp [List.filter_cons]
  split <;> simp
theorem membK_len (i n k : Nat) : (membK i n k).length ≤ k := by
  unfold membK
  rw [List.length_map]
  exact Nat.le_trans (List.length_filter_le _ _) (by simp)
set_option maxHeartbeats 800000 in
theorem Members_ct (i n : Nat) (hn : n ≤ 60) (hi : i ≤ 4611686018427387904) (w : World) : Calls Try.prog 33 #[.int .i64 i, .int .i64 n] w (Made w (membI i n)) := by
  obtain ⟨i0, hi0, hz0, hz1, hz2⟩ := info_parts intInfo
  go_enter Try.func33, Try.ntmps33
  go_wp2
  go_loopw [5, 6] (fun o i' wr => ∃ (k : Nat) (O : Option Addr) (oc : Nat) (l : List Int), k ≤ n ∧ i' = .int .i64 k ∧ o = .slice O l.length oc ∧ l = membK i n k ∧ wr.ownsRow w.heap.size 3 1 (.slice O l.length oc) l.length (l.map (Value.int .i64)) ∧ Below w.heap.size w wr) (fun _ i' _ => n - (intOf i').toNat)
  case atStart => exact ⟨0, none, 0, [], by omega, rfl, rfl, rfl, World.ownsRow_nil _ _ _ _, Below.refl _ _⟩
  case round =>
    obtain ⟨k, O, oc, l, hk, rfl, rfl, hl, hown, hbr⟩ := hrel
    have hlen : l.length ≤ k := by rw [hl]; exact membK_len _ _ _
    have Hown := hide hown
    have Hbr := hide hbr
    have Hl := hide hl
    clear hown hbr hl
    by_cases hlt : k < n
    · cases hb : bitB i k n
      · have Hb := hide hb
        clear hb
        go_wp2_with fail
        refine (bit_ct i k n hlt hn hi _).mono ?_
        rintro e w1 ⟨rfl, rfl⟩
        rw [Hb.out]
        go_wp2
        go_roundw
        case rel => exact ⟨k + 1, O, oc, l, by omega, by go_num, rfl, by rw [membK_succ, Hb.out, Hl.out]; simp, Hown.out, Hbr.out⟩
        case measure => simp [intOf]; omega
      · have Hb := hide hb
        clear hb
        go_wp2_with fail
        refine (bit_ct i k n hlt hn hi _).mono ?_
        rintro e w1 ⟨rfl, rfl⟩
        rw [Hb.out]
        go_wp2_with
          (at_builtin
           refine wpList_push rfl _ _ 48 rfl w.heap.size 3 i0 (.int .i64 0) 1 8 Try.underlying48 hi0 hz0 hz1 hz2 rfl (by decide) _ _ _ rfl Hown.out [.int .i64 (k : Int)] rfl (by intro u hu; simp at hu; subst hu; rfl) rfl (by omega) (by omega) Hbr.out.size ?_
           intro O1 oc1 w1 hown1 hb1)
        go_roundw
        case rel => exact ⟨k + 1, O1, oc1, l ++ [(k : Int)], by omega, by go_num, by simp, by rw [membK_succ, Hb.out, Hl.out]; simp, by simpa using hown1, Hbr.out.trans hb1⟩
        case measure => simp [intOf]; omega
    · obtain rfl : k = n := by omega
      go_wp2
      go_ret
      have hll := Hl.out
      subst hll
      exact ⟨Hbr.out, O, oc, rfl, Hown.out⟩

/-- the number of a set -/
def numI (n : Nat) : List Int → Nat
  | [] => 0
  | v :: l => 2 ^ (n - 1 - v.toNat) + numI n l
theorem numI_snoc (n : Nat) (l : List Int) (v : Int) : numI n (l ++ [v]) = numI n l + 2 ^ (n - 1 - v.toNat) := by
  induction l with
  | nil => simp [numI]
  | cons x l ih => simp [numI, ih]; omega
theorem numI_le (n : Nat) (l : List Int) : numI n l ≤ l.length * 2 ^ (n - 1) := by
  induction l with
  | nil => simp [numI]
  | cons x l ih =>
    rw [numI, List.length_cons, Nat.succ_mul]
    have := Nat.pow_le_pow_right (n := 2) (by omega) (show n - 1 - x.toNat ≤ n - 1 by omega)
    omega
theorem take_snoc' {α : Type} {l : List α} {k : Nat} {x : α} (h : l[k]? = some x) : l.take (k + 1) = l.take k ++ [x] := by rw [List.take_add_one, h]; rfl
set_option maxHeartbeats 800000 in
theorem Number_ct (A : Option Addr) (m c : Nat) (set : List Int) (n : Nat) (w : World) (h : Rd Enc.int w A m c set) (hn : n ≤ 24) (hm : m ≤ 24) (hs : ∀ v ∈ set, 0 ≤ v ∧ v < n) :
    Calls Try.prog 31 #[.slice A m c, .int .i64 n] w (Same w (.int .i64 (numI n set : Nat))) := by
  have hsm := h.low
  have Hs := hide hs
  have hnu := numI_le n set
  have hp24 : 2 ^ (n - 1) ≤ 2 ^ 24 := Nat.pow_le_pow_right (by omega) (by omega)
  rw [h.len] at hnu
  have hbig : numI n set ≤ 24 * 2 ^ 24 := Nat.le_trans hnu (Nat.mul_le_mul hm hp24)
  have Hbig := hide hbig
  clear hs hnu hp24 hbig
  go_enter Try.func31, Try.ntmps31
  go_wp2
  go_loop [5, 6] (fun o i => ∃ (k q : Nat), k ≤ m ∧ i = .int .i64 k ∧ o = .int .i64 q ∧ q = numI n (set.take k)) (fun _ i => m - (intOf i).toNat)
  case atStart => exact ⟨0, 0, by omega, rfl, rfl, rfl⟩
  case round =>
    obtain ⟨k, q, hk, rfl, rfl, hq⟩ := hrel
    by_cases hlt : k < m
    · obtain ⟨b, off, x, rfl, hx, hx1, hx2, hcx⟩ := h.int hlt
      obtain ⟨hx3, hx4⟩ := Hs.out x (List.mem_of_getElem? hx)
      have hqn : numI n (set.take (k + 1)) = q + 2 ^ (n - 1 - x.toNat) := by rw [take_snoc' hx, numI_snoc, hq]
      have hp : 2 ^ (n - 1 - x.toNat) ≤ 2 ^ 24 := Nat.pow_le_pow_right (by omega) (by omega)
      have hql : q ≤ 24 * 2 ^ 24 := by
        rw [hq]
        have h1 := numI_le n (set.take k)
        have h2 : (set.take k).length ≤ 24 := by rw [List.length_take]; omega
        have h3 : 2 ^ (n - 1) ≤ 2 ^ 24 := Nat.pow_le_pow_right (by omega) (by omega)
        exact Nat.le_trans h1 (Nat.mul_le_mul h2 h3)
      have h1 : IntKind.u64.wrap ((n : Int) - 1 - x) = (n : Int) - 1 - x := by rw [IntWalk.u64_in _ (by omega)]
      have h2 : ((n : Int) - 1 - x).toNat = n - 1 - x.toNat := by omega
      have hsh : ((2 : Int) ^ (n - 1 - x.toNat)) = ((2 ^ (n - 1 - x.toNat) : Nat) : Int) := by simp
      generalize hP : 2 ^ (n - 1 - x.toNat) = P at *
      have Hqn := hide hqn
      clear hqn hx hq
      go_wp2
      go_round
      case rel =>
        exact ⟨k + 1, q + P, by omega, by go_num, by go_num, Hqn.out.symm⟩
      case measure => simp [intOf]; omega
    · obtain rfl : k = m := by omega
      have hq' : q = numI n set := by rw [hq, List.take_of_length_le (by rw [h.len]; omega)]
      have Hq := hide hq'
      clear hq hq'
      go_wp2
      go_ret
      exact ⟨by rw [← Hq.out]; rfl, rfl⟩
end Go.Proofs.Ytgenpcokpodhkaa
