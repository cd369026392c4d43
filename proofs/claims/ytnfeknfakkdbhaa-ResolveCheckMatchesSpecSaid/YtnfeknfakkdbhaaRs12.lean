/- The solver's values. -/
import Derived.Test.YtnfeknfakkdbhaaRs11
import Derived.Test.YtnfeknfakkdbhaaRsPure3
namespace Go.Proofs.Ytnfeknfakkdbhaa
set_option linter.unusedVariables false
set_option linter.unusedSimpArgs false
open Go.RowKit

def ValuesP (w : World) (V : Nat) (vals : List Int) (e : Ending) (w' : World) : Prop :=
  ∃ O oc, e = .returned (.slice O V oc) ∧ Below w.heap.size w w' ∧ w'.ownsRow w.heap.size 4 1 (.slice O V oc) V ((modelF vals V).map Value.bool)
set_option maxRecDepth 100000 in
set_option maxHeartbeats 1600000 in
theorem values_ct {B : Nat} {w : World} {g : Nat} {a : SA} {V : Nat} {cs ln : List (List Int)} {vals lev rea t : List Int} {starts : List Nat} (h : Sv B w g a V cs ln vals lev rea t starts) (hV : V ≤ 1000) :
    Calls Try.prog 70 #[.pointer (some ⟨g, 0, none⟩)] w (ValuesP w V vals) := by
  obtain ⟨i0, hi0, hz0, hz1, hz2⟩ := info_parts boolInfo2
  have H := hide h
  clear h
  go_enter Try.func70, Try.ntmps70
  go_wp2_with fail
  go_loopw [3, 4] (fun o v wr => ∃ (j : Nat) (O : Option Addr) (oc : Nat), j ≤ V ∧ v = .int .i64 ((j : Int) + 1) ∧ o = .slice O j oc ∧ wr.ownsRow w.heap.size 4 1 (.slice O j oc) j ((modelF vals j).map Value.bool) ∧ Below w.heap.size w wr) (fun _ v _ => V + 1 - (intOf v).toNat)
  case atStart => exact ⟨0, none, 0, by omega, by first | rfl | go_num, rfl, World.ownsRow_nil _ _ _ _, Below.refl _ _⟩
  case round =>
    obtain ⟨j, O, oc, hj, rfl, rfl, hown, hb⟩ := hrel
    have hsv := H.out.keep hb
    obtain ⟨f0, f1, f2, f3, f4, f5, f6, f7⟩ := hsv.facts
    clear f1 f2 f4 f5 f6 f7
    have hB := hb.size
    have Hown := hide hown
    have Hb := hide hb
    by_cases hlt : j < V
    · have hcell := hsv.val.cell (Lf_get (l := vals) (show j + 1 < vals.length by rw [hsv.vlen]; omega))
      have hq0' : (0 : Int) ≤ (j : Int) + 1 := by omega
      have hq1' : (j : Int) + 1 < (V : Int) + 1 := by omega
      have hq2' : (j : Int) + 1 ≤ (V : Int) := by omega
      have hms : modelF vals (j + 1) = modelF vals j ++ [decide (0 < Lf vals (j + 1))] := by
        unfold modelF
        rw [List.range_succ, List.map_append]
        rfl
      obtain ⟨u, hu⟩ : ∃ u, u = Lf vals (j + 1) := ⟨_, rfl⟩
      rw [← hu] at hcell hms
      have Hms := hide hms
      clear hsv hown hb hu hms
      go_wp2_with
        (at_builtin
         refine wpList_pushA rfl _ _ 52 rfl w.heap.size 4 i0 (.bool false) 1 1 Try.underlying52 hi0 hz0 hz1 hz2 rfl (by decide) _ _ _ rfl Hown.out [.bool (decide (0 < u))] rfl (by intro u hu; simp at hu; subst hu; rfl) rfl (by omega) (by omega) hB ?_
         intro O6 oc6 w6 hown6 hg6 hat6
         have hbl := ((Hb.out.alloc hB (.cells #[.bool (decide (0 < u))] 4))).grown hg6 (by simp; omega) (fun k hk => own_base Hown.out hk)
         have Hown6 := hide hown6
         have Hbl := hide hbl
         clear hown6 hg6 hat6 hbl)
      go_roundw
      case rel => exact ⟨j + 1, O6, oc6, by omega, by go_num, rfl, by rw [Hms.out, List.map_append]; exact Hown6.out, Hbl.out⟩
      case measure => simp [intOf]; omega
    · obtain rfl : j = V := by omega
      have hq2' : ¬ ((j : Int) + 1 ≤ (j : Int)) := by omega
      clear hsv hown hb
      go_wp2_with fail
      go_ret
      exact ⟨O, oc, rfl, Hb.out, Hown.out⟩
end Go.Proofs.Ytnfeknfakkdbhaa
