/- Sets of facts in the package strips: IsSet, Contains, Meets, Update, Union. -/
import Derived.Test.YtnfeknfakkdbhaaTkPure
import Derived.Test.YtnfeknfakkdbhaaGrow
import Derived.Test.YtnfeknfakkdbhaaShM
import Derived.Sort.OwnSortedInts
import Derived.IntWalk
namespace Go.Proofs.Ytnfeknfakkdbhaa
set_option linter.unusedVariables false
set_option linter.unusedSimpArgs false
open Go.RowKit

theorem intInfoT : (Try.prog.info? 3).map (fun i => (i.zero, i.size, i.bytes)) = some (some (.int .i64 0), 1, 8) := by kernel_rfl
set_option maxHeartbeats 1600000 in
theorem SIsSet_ct (A : Option Addr) (m c : Nat) (l : List Int) (n : Int) (w : World) (h : Rd Enc.int w A m c l) :
    Calls Try.prog 91 #[.slice A m c, .int .i64 n] w (Same w (.bool (setB n l))) := by
  have hsm := h.low
  have Hl := hide h.len
  go_enter Try.func91, Try.ntmps91
  go_wp2_with fail
  go_loop [9] (fun i => ∃ k : Nat, k ≤ m ∧ i = .int .i64 k ∧ setB n (l.take k) = true) (fun i => m - (intOf i).toNat)
  case atStart => exact ⟨0, by omega, rfl, by simp [setB]⟩
  case round =>
    obtain ⟨k, hk, rfl, hset⟩ := hrel
    have Hset := hide hset
    clear hset
    by_cases hlt : k < m
    · obtain ⟨b, off, x, rfl, hx, hx1, hx2, hcx⟩ := h.int hlt
      have Hx := hide hx
      clear hx
      by_cases h0 : x < 0
      · go_wp2
        go_ret
        refine ⟨ret_bool ?_, rfl⟩
        rw [eq_comm, ← Bool.not_eq_true]
        intro hs
        have := (setB_at hs Hx.out).1
        omega
      · by_cases h2 : n ≤ x
        · go_wp2
          go_ret
          refine ⟨ret_bool ?_, rfl⟩
          rw [eq_comm, ← Bool.not_eq_true]
          intro hs
          have := (setB_at hs Hx.out).2.1
          omega
        · cases k with
          | zero =>
            rw [Nat.add_zero] at hcx
            go_wp2
            go_round
            case rel => exact ⟨1, by omega, by go_num, setB_succ (by omega) Hset.out Hx.out (by omega) (by omega) (fun y h => by omega)⟩
            case measure => simp [intOf]; omega
          | succ j =>
            obtain ⟨b', off', y, e, hy, hy1, hy2, hcy⟩ := h.int (show j < m by omega)
            injection e with e
            injection e with e1 e2
            subst e1 e2
            have Hy := hide hy
            clear hy
            by_cases hxy : x ≤ y
            · go_wp2
              go_ret
              refine ⟨ret_bool ?_, rfl⟩
              rw [eq_comm, ← Bool.not_eq_true]
              intro hs
              have := (setB_at hs Hx.out).2.2 y (by omega) Hy.out
              omega
            · go_wp2
              go_round
              case rel => exact ⟨j + 2, by omega, by go_num, setB_succ (by rw [Hl.out]; omega) Hset.out Hx.out (by omega) (by omega) (fun z _ hz => by
                have e := Hy.out.symm.trans hz
                injection e with e
                omega)⟩
              case measure => simp [intOf]; omega
    · obtain rfl : k = m := by omega
      go_wp2
      go_ret
      refine ⟨ret_bool ?_, rfl⟩
      have := Hset.out
      rw [List.take_of_length_le (by rw [Hl.out]; omega)] at this
      exact this.symm

def SearchP (w : World) (b : Bool) (e : Ending) (w' : World) : Prop := ∃ p : Int, e = .returned (.tuple #[.int .i64 p, .bool b]) ∧ Qt w w'
theorem Search_ct (A : Option Addr) (n c : Nat) (l : List Int) (x : Int) (w : World) (h : Rd Enc.int w A n c l) (hs : l.Pairwise (· ≤ ·)) (hn : n ≤ 1000000000000) :
    Calls Try.prog 117 #[.slice A n c, .int .i64 x] w (SearchP w (hasB l x)) := by
  have hl := h.len
  rcases Nat.eq_zero_or_pos n with h0 | h0
  · subst h0
    obtain rfl : l = [] := List.eq_nil_of_length_eq_zero hl
    refine (Try.slices_BinarySearch_int_empty A c x w).mono ?_
    rintro e w' ⟨rfl, rfl⟩
    exact ⟨0, rfl, Qt.refl _⟩
  · obtain ⟨b, off, rfl, _⟩ := h.at_ h0
    refine (Try.slices_BinarySearch_int b off n c l x w (by omega) (by omega) (fun j hj => ?_) (by rw [List.take_of_length_le (by omega)]; exact hs)).mono ?_
    · obtain ⟨b', off', y, e, hy, _, _, hc⟩ := h.int (show j < n by omega)
      injection e with e
      injection e with e1 e2
      subst e1 e2
      rw [hc, List.getD_eq_getElem?_getD, hy]
      rfl
    · rintro e w' ⟨rfl, q, rfl⟩
      rw [List.take_of_length_le (by omega)]
      exact ⟨_, rfl, q, rfl⟩
theorem up_le {l : List Int} (h : l.Pairwise (· < ·)) : l.Pairwise (· ≤ ·) := h.imp (fun {a b} hab => by omega)
/-- slices.IndexFunc: the first place where it holds -/
def firstP (p : Int → Bool) : Nat → List Int → Int
  | _, [] => -1
  | k, x :: xs => if p x = true then k else firstP p (k + 1) xs
theorem firstP_sign (p : Int → Bool) (k : Nat) (xs : List Int) : decide (0 ≤ firstP p k xs) = xs.any p := by
  induction xs generalizing k with
  | nil => simp [firstP]
  | cons x xs ih =>
    unfold firstP
    by_cases h : p x = true
    · simp [h]
    · rw [if_neg h, ih]
      simp [h]
set_option maxRecDepth 100000 in
set_option maxHeartbeats 800000 in
theorem IndexMeets_ct (g : Nat) (p : Int → Bool) (B : Option Addr) (n c : Nat) (xs : List Int) (w : World) (hx : Rd Enc.int w B n c xs)
    (hf : ∀ x ∈ xs, ∀ d, Calls Try.prog 116 #[.int .i64 x, .pointer (some ⟨g, 0, none⟩)] (w.drewN d) (Quiet (w.drewN d) (.bool (p x)))) :
    Calls Try.prog 115 #[.slice B n c, .func (.func 116) #[] #[.pointer (some ⟨g, 0, none⟩)]] w (Quiet w (.int .i64 (firstP p 0 xs))) := by
  have hsm := hx.low
  have Hl := hide hx.len
  have Hf := hide hf
  clear hf
  go_enter Try.func115, Try.ntmps115
  go_wp2
  go_loopw [8] (fun i wr => ∃ k : Nat, k ≤ n ∧ i = .int .i64 k ∧ Qt w wr ∧ firstP p 0 xs = firstP p k (xs.drop k)) (fun i _ => n - (intOf i).toNat)
  case atStart => exact ⟨0, by omega, rfl, Qt.refl _, by simp⟩
  case round =>
    obtain ⟨k, hk, rfl, ⟨d, rfl⟩, hrel⟩ := hrel
    by_cases hlt : k < n
    · obtain ⟨b, off, x, rfl, hxx, hxl, hxh, hcx⟩ := hx.int hlt
      rw [drop_cons hxx] at hrel
      have Hfx := hide (Hf.out x (List.mem_of_getElem? hxx) d)
      have Hrel := hide hrel
      clear hrel hxx
      obtain ⟨b, hb⟩ : ∃ b, b = p x := ⟨_, rfl⟩
      rw [← hb] at Hfx
      have Hb := hide hb
      clear hb
      go_wp2_with fail
      refine (Hfx.out).mono ?_
      rintro e w1 ⟨rfl, d1, rfl⟩
      cases b with
      | true =>
        go_wp2
        go_ret
        exact ⟨ret_int (by rw [Hrel.out, firstP, if_pos Hb.out.symm]), d + d1, rfl⟩
      | false =>
        go_wp2
        go_roundw
        case rel => exact ⟨k + 1, by omega, by go_num, ⟨d + d1, rfl⟩, by rw [Hrel.out, firstP, if_neg (by rw [← Hb.out]; simp)]⟩
        case measure => simp [intOf]; omega
    · have Hrel := hide hrel
      clear hrel
      go_wp2
      go_ret
      refine ⟨ret_int ?_, d, rfl⟩
      rw [Hrel.out, List.drop_of_length_le (by rw [Hl.out]; omega), firstP]
set_option maxHeartbeats 400000 in
theorem ContainsMeets_ct (g : Nat) (p : Int → Bool) (B : Option Addr) (n c : Nat) (xs : List Int) (w : World) (hx : Rd Enc.int w B n c xs)
    (hf : ∀ x ∈ xs, ∀ d, Calls Try.prog 116 #[.int .i64 x, .pointer (some ⟨g, 0, none⟩)] (w.drewN d) (Quiet (w.drewN d) (.bool (p x)))) :
    Calls Try.prog 93 #[.slice B n c, .func (.func 116) #[] #[.pointer (some ⟨g, 0, none⟩)]] w (Quiet w (.bool (xs.any p))) := by
  have Hf := hide hf
  clear hf
  go_enter Try.func93, Try.ntmps93
  go_wp2_with fail
  refine (IndexMeets_ct g p B n c xs _ hx Hf.out).mono ?_
  rintro e w1 ⟨rfl, d1, rfl⟩
  go_wp2
  go_ret
  exact ⟨ret_bool (firstP_sign p 0 xs), d1, rfl⟩
theorem meets1_ct (g : Nat) (B : Option Addr) (n c : Nat) (l : List Int) (x : Int) (w : World) (hc : w.cell? ⟨g, 0, none⟩ = some (.slice B n c)) (h : Rd Enc.int w B n c l) (hs : l.Pairwise (· ≤ ·)) (hn : n ≤ 1000000000000) :
    Calls Try.prog 116 #[.int .i64 x, .pointer (some ⟨g, 0, none⟩)] w (Quiet w (.bool (hasB l x))) := by
  have Hs := hide hs
  clear hs
  go_enter Try.func116, Try.ntmps116
  go_wp2_with fail
  refine (Search_ct B n c l x w h Hs.out hn).mono ?_
  rintro e w1 ⟨p, rfl, hq⟩
  go_wp2
  go_ret
  exact ⟨rfl, hq⟩
set_option maxHeartbeats 400000 in
theorem Meets_ct (A B : Option Addr) (n c n' c' : Nat) (a b : List Int) (w : World) (ha : Rd Enc.int w A n c a) (hb : Rd Enc.int w B n' c' b) (hs : b.Pairwise (· ≤ ·)) (hn : n' ≤ 1000000000000) :
    Calls Try.prog 95 #[.slice A n c, .slice B n' c'] w (Gives w (.bool (meetB a b))) := by
  have Hs := hide hs
  clear hs
  have hw2 : Below w.heap.size w (w.alloc (.cells #[.slice B n' c'] 22)) := (Below.refl _ _).alloc (Nat.le_refl _) _
  have Hw2 := hide hw2
  have HB := hide (Blk.new w 22 [.slice B n' c'])
  have hmf : ∀ (fn : Fn) (first cap : Array Value) (w : World), (Instr.makeFunc fn first cap).run Try.prog w = .ok (.func fn first cap) w := fun _ _ _ _ => rfl
  clear hw2
  go_enter Try.func95, Try.ntmps95
  go_wp2_with fail
  refine (ContainsMeets_ct w.heap.size (hasB b) A n c a _ (ha.keep Hw2.out) (fun x _ d => meets1_ct w.heap.size B n' c' b x _ (by rw [World.cell?_drewN]; exact HB.out.cell 0) (hb.keep (below_drewN Hw2.out d)) Hs.out hn)).mono ?_
  rintro e w1 ⟨rfl, hq⟩
  go_wp2
  go_ret
  exact ⟨rfl, Hw2.out.trans (hq.below _)⟩

/-- slices.Sort on a row of the call's own -/
def SortP (w : World) (B : Nat) (A : Option Addr) (n c : Nat) (l : List Int) (e : Ending) (w' : World) : Prop :=
  e = .returned (.tuple #[]) ∧ Chg (fun b => blkA A = some b) w w' ∧ w'.ownsRow B 3 1 (.slice A n c) n ((l.mergeSort fun x y => decide (x ≤ y)).map (Value.int .i64))
theorem SortOwn_ct {B : Nat} {A : Option Addr} {n c : Nat} {l : List Int} {w : World} (ho : w.ownsRow B 3 1 (.slice A n c) n (l.map (Value.int .i64))) (hl : l.length = n) (hn : n ≤ 1000000000000) :
    Calls Try.prog 118 #[.slice A n c] w (SortP w B A n c l) := by
  rcases Nat.eq_zero_or_pos n with h0 | h0
  · subst h0
    obtain rfl : l = [] := List.eq_nil_of_length_eq_zero hl
    refine (Try.slices_Sort_int_none A c w).mono ?_
    rintro e w' ⟨rfl, rfl⟩
    refine ⟨rfl, Chg.refl _ _, ?_⟩
    rw [List.Perm.eq_nil (List.mergeSort_perm [] _)]
    exact ho
  · rcases ho.2 with ⟨_, h2⟩ | ⟨g, cap, cur, hv, hg, hb, hnc, hcm, hcs, htake⟩
    · omega
    injection hv with hv1 hv2 hv3
    subst hv1 hv3
    rw [Nat.mul_one] at htake
    have hH := holds_of_blockI (ss := l) hb (by rw [hl]; exact htake)
    have hgl : g < w.heap.size := (Array.getElem?_eq_some_iff.1 hb).1
    have hcon := Try.slices_Sort_int g 0 c l w hH hgl (by omega)
    rw [hl] at hcon
    refine hcon.mono ?_
    rintro e w' ⟨rfl, m, os, rfl⟩
    refine ⟨rfl, (Chg.of_grown (grownBy_sortedI _)).mono (fun i e => e), ?_⟩
    have := ownsRow_sortedI (n := m) (os := os) (ss := l) (ts := l.mergeSort fun x y => decide (x ≤ y)) (List.mergeSort_perm _ _).length_eq hg hb (by omega) hcm hcs
    rw [hl] at this
    exact this
/-- slices.Compact on a row of the call's own -/
def CompactP (w : World) (B : Nat) (A : Option Addr) (c : Nat) (l : List Int) (e : Ending) (w' : World) : Prop :=
  e = .returned (.slice A (Go.Lib.compact l).length c) ∧ Chg (fun b => blkA A = some b) w w' ∧ w'.ownsRow B 3 1 (.slice A (Go.Lib.compact l).length c) (Go.Lib.compact l).length ((Go.Lib.compact l).map (Value.int .i64))
theorem CompactOwn_ct {B : Nat} {A : Option Addr} {n c : Nat} {l : List Int} {w : World} (ho : w.ownsRow B 3 1 (.slice A n c) n (l.map (Value.int .i64))) (hl : l.length = n) (hn : n ≤ 1000000000000) :
    Calls Try.prog 119 #[.slice A n c] w (CompactP w B A c l) := by
  rcases Nat.eq_zero_or_pos n with h0 | h0
  · subst h0
    obtain rfl : l = [] := List.eq_nil_of_length_eq_zero hl
    refine (Try.slices_Compact_int_empty A c w).mono ?_
    rintro e w' ⟨rfl, rfl⟩
    exact ⟨rfl, Chg.refl _ _, ho⟩
  · rcases ho.2 with ⟨_, h2⟩ | ⟨g, cap, cur, hv, hg, hb, hnc, hcm, hcs, htake⟩
    · omega
    injection hv with hv1 hv2 hv3
    subst hv1 hv3
    rw [Nat.mul_one] at htake
    have hH := holds_of_blockI (ss := l) hb (by rw [hl]; exact htake)
    have hle := Go.Lib.compact_length_le l
    have hcon := Try.slices_Compact_int g 0 c l w hH (by omega) (by omega)
    rw [hl] at hcon
    refine hcon.mono ?_
    rintro e w' ⟨rfl, m, rfl⟩
    have e0 : Go.Sort.putRow (Value.int .i64) (Go.Sort.ahead w m) g 0 (Go.Lib.compact l ++ List.replicate (n - (Go.Lib.compact l).length) 0).toArray = Go.Sort.grow (Go.Sort.putRow (Value.int .i64) (Go.Sort.ahead w m) g 0 (Go.Lib.compact l ++ List.replicate (n - (Go.Lib.compact l).length) 0).toArray) #[] := by simp
    rw [e0]
    refine ⟨rfl, (Chg.of_grown (grownBy_sortedI _)).mono (fun i e => e), ?_⟩
    have h1 := ownsRow_sortedI (n := m) (os := #[]) (ss := l) (ts := Go.Lib.compact l ++ List.replicate (n - (Go.Lib.compact l).length) 0) (by rw [List.length_append, List.length_replicate]; omega) hg hb (by omega) hcm hcs
    have h2 := own_cut h1 (m := (Go.Lib.compact l).length) (by omega)
    rw [← List.map_take, List.take_left' rfl] at h2
    exact h2
end Go.Proofs.Ytnfeknfakkdbhaa
