/- Dead ends: the law that Make answers as the specification requires. No condition., part 24: Ref6c. -/
import Derived.Test.YtmjiiddncbhgpaaGreatB1
import Derived.Test.YtmjiiddncbhgpaaGreatB11
import Derived.BigQuiet
import Derived.Deep.AppendLies
import Derived.Deep.Draws
import Derived.Deep.Fields
import Derived.Deep.LoopGhost
import Derived.Deep.QuietTactic
import Derived.Deep.Slices
import Derived.Laws.AppendOwnNone
import Derived.Laws.OwnMore
import Derived.Lib.Hide
import Derived.Test.YtmjiiddncbhgpaaGreatProg
import Derived.WalkKit
import Init
namespace Go.Proofs.YtmjiiddncbhgpaaGreat
set_option linter.unusedVariables false
set_option linter.unusedSimpArgs false
open Go.RowKit
/-- bit v of the n bits of i, the first the greatest -/
def bitB (i v n : Nat) : Bool := (i >>> (n - 1 - v)) % 2 == 1
theorem bitB_int (i m : Nat) : (((i : Int) / 2 ^ m).tmod 2 == 1) = ((i >>> m) % 2 == 1) := by
  rw [Nat.shiftRight_eq_div_pow, show (i : Int) / 2 ^ m = ((i / 2 ^ m : Nat) : Int) from by simp, Int.tmod_eq_emod_of_nonneg (Int.natCast_nonneg _)]
  rw [Bool.eq_iff_iff, beq_iff_eq, beq_iff_eq]
  omega
theorem bit_ct (i v n : Nat) (hv : v < n) (hn : n ≤ 60) (hi : i ≤ 4611686018427387904) (w : World) :
    Calls Tryz.prog 94 #[.int .i64 i, .int .i64 v, .int .i64 n] w (Same w (.bool (bitB i v n))) := by
  have h1 : IntKind.u64.wrap ((n : Int) - 1 - (v : Int)) = (n : Int) - 1 - (v : Int) := by rw [IntWalk.u64_in _ (by omega)]
  have h2 : (min ((n : Int) - 1 - (v : Int)).toNat 64) = n - 1 - v := by omega
  go_enter Tryz.func94, Tryz.ntmps94
  go_wp2
  go_ret
  exact ⟨ret_bool (bitB_int i _), rfl⟩

/-- a list of ints in a row of the call's own -/
def Made (w : World) (l : List Int) (e : Ending) (w' : World) : Prop :=
  Below w.heap.size w w' ∧ ∃ A c, e = .returned (.slice A l.length c) ∧ w'.ownsRow w.heap.size 3 1 (.slice A l.length c) l.length (l.map (Value.int .i64))
theorem intInfo : (Tryz.prog.info? 3).map (fun i => (i.zero, i.size, i.bytes)) = some (some (.int .i64 0), 1, 8) := by kernel_rfl
def membK (i n k : Nat) : List Int := ((List.range k).filter fun v => bitB i v n).map fun v : Nat => (v : Int)
def membI (i n : Nat) : List Int := membK i n n
theorem membK_succ (i n k : Nat) : membK i n (k + 1) = membK i n k ++ if bitB i k n = true then [(k : Int)] else [] := by
  unfold membK
  rw [List.range_succ, List.filter_append, List.map_append]
  congr 1
  simp [List.filter_cons]
  split <;> simp
theorem membK_len (i n k : Nat) : (membK i n k).length ≤ k := by
  unfold membK
  rw [List.length_map]
  exact Nat.le_trans (List.length_filter_le _ _) (by simp)
set_option maxHeartbeats 800000 in
theorem Members_ct (i n : Nat) (hn : n ≤ 60) (hi : i ≤ 4611686018427387904) (w : World) : Calls Tryz.prog 49 #[.int .i64 i, .int .i64 n] w (Made w (membI i n)) := by
  obtain ⟨i0, hi0, hz0, hz1, hz2⟩ := info_parts intInfo
  go_enter Tryz.func49, Tryz.ntmps49
  go_wp2
  go_loopw [5, 6] (fun o i' wr => ∃ (k : Nat) (O : Option Addr) (oc : Nat) (l : List Int), k ≤ n ∧ i' = .int .i64 k ∧ o = .slice O l.length oc ∧ l = membK i n k ∧ wr.ownsRow w.heap.size 3 1 (.slice O l.length oc) l.length (l.map (Value.int .i64)) ∧ Below w.heap.size w wr) (fun _ i' _ => n - (intOf i').toNat)
  case atStart => exact ⟨0, none, 0, [], by omega, rfl, rfl, rfl, World.ownsRow_nil _ _ _ _, Below.refl _ _⟩
  case round =>
    obtain ⟨k, O, oc, l, hk, rfl, rfl, hl, hown, hbr⟩ := hrel
    have hlen : l.length ≤ k := by rw [hl]; exact membK_len _ _ _
    have Hown := hide hown
    have Hbr := hide hbr
    have Hl := hide hl
    clear hown hbr hl
    by_cases hlt : k < n
    · cases hb : bitB i k n
      · have Hb := hide hb
        clear hb
        go_wp2_with fail
        refine (bit_ct i k n hlt hn hi _).mono ?_
        rintro e w1 ⟨rfl, rfl⟩
        rw [Hb.out]
        go_wp2
        go_roundw
        case rel => exact ⟨k + 1, O, oc, l, by omega, by go_num, rfl, by rw [membK_succ, Hb.out, Hl.out]; simp, Hown.out, Hbr.out⟩
        case measure => simp [intOf]; omega
      · have Hb := hide hb
        clear hb
        go_wp2_with fail
        refine (bit_ct i k n hlt hn hi _).mono ?_
        rintro e w1 ⟨rfl, rfl⟩
        rw [Hb.out]
        go_wp2_with
          (at_builtin
           refine wpList_push rfl _ _ 22 rfl w.heap.size 3 i0 (.int .i64 0) 1 8 Tryz.underlying22 hi0 hz0 hz1 hz2 rfl (by decide) _ _ _ rfl Hown.out [.int .i64 (k : Int)] rfl (by intro u hu; simp at hu; subst hu; rfl) rfl (by omega) (by omega) Hbr.out.size ?_
           intro O1 oc1 w1 hown1 hb1)
        go_roundw
        case rel => exact ⟨k + 1, O1, oc1, l ++ [(k : Int)], by omega, by go_num, by simp, by rw [membK_succ, Hb.out, Hl.out]; simp, by simpa using hown1, Hbr.out.trans hb1⟩
        case measure => simp [intOf]; omega
    · obtain rfl : k = n := by omega
      go_wp2
      go_ret
      have hll := Hl.out
      subst hll
      exact ⟨Hbr.out, O, oc, rfl, Hown.out⟩

end Go.Proofs.YtmjiiddncbhgpaaGreat
