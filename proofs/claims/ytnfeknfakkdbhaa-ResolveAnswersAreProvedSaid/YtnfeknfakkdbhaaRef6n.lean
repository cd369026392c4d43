/- Contracts of the reference's functions on satisfiability and refutations: Model, Satisfiable, Refutes. -/
import Derived.Test.YtnfeknfakkdbhaaRef6b
import Derived.Test.YtnfeknfakkdbhaaRsPure3
import Derived.Test.YtnfeknfakkdbhaaOwn
import Derived.Deep.DeepCutAuto
import Derived.Deep.RegionHeld3
namespace Go.Proofs.Ytnfeknfakkdbhaa
set_option linter.unusedVariables false
set_option linter.unusedSimpArgs false
open Go.RowKit

theorem boolInfo3 : (Try.prog.info? 4).map (fun i => (i.zero, i.size, i.bytes)) = some (some (.bool false), 1, 1) := by kernel_rfl
theorem sliceInfo3 : (Try.prog.info? 22).map (fun i => (i.zero, i.size, i.bytes)) = some (some (.slice none 0 0), 1, 24) := by kernel_rfl
/-- a list of bools in a row of the call's own -/
def MadeBs (w : World) (l : List Bool) (e : Ending) (w' : World) : Prop :=
  Below w.heap.size w w' ∧ ∃ A c, e = .returned (.slice A l.length c) ∧ w'.ownsRow w.heap.size 4 1 (.slice A l.length c) l.length (l.map Value.bool)
/-- an owned row of bools reads as a list -/
theorem own_rdb {w : World} {base : Nat} {t : TypeId} {A : Option Addr} {n c : Nat} {l : List Bool} (h : w.ownsRow base t 1 (.slice A n c) n (l.map Value.bool)) (hl : l.length = n) : Rd Enc.bool w A n c l := by
  rcases h.2 with ⟨e, rfl⟩ | ⟨g, cap, cur, e, hb, hg, hnc, hcm, hcs, htake⟩
  · injection e with e1 e2 e3
    subst e1 e3
    obtain rfl : l = [] := List.eq_nil_of_length_eq_zero hl
    exact Rd.nil_ _ _
  · injection e with e1 e2 e3
    subst e1 e3
    refine ⟨hl, hnc, by unfold maxLen at hcm; omega, fun h => (by cases h), fun _ => ⟨g, 0, rfl, fun j x hj => ⟨[.bool x], rfl, fun i v hi => ?_⟩⟩⟩
    cases i with
    | succ i => simp at hi
    | zero =>
      simp at hi
      subst hi
      have := h.cells (g := g) rfl j (.bool x) (by rw [List.getElem?_map, hj]; rfl)
      rw [add_plain] at this
      simpa [Enc.bool] using this
theorem modelN_succ (i V : Nat) : modelN i (V + 1) = modelN i V ++ [decide (i / 2 ^ V % 2 = 1)] := by
  unfold modelN
  rw [List.range_succ, List.map_append]
  rfl
theorem bitN_int (i m : Nat) : (((i : Int) / 2 ^ m).tmod 2 == 1) = decide (i / 2 ^ m % 2 = 1) := by
  rw [show (i : Int) / 2 ^ m = ((i / 2 ^ m : Nat) : Int) from by simp, Int.tmod_eq_emod_of_nonneg (Int.natCast_nonneg _)]
  rw [Bool.eq_iff_iff, beq_iff_eq, decide_eq_true_iff]
  omega
set_option maxHeartbeats 1600000 in
theorem Model_ct (i V : Nat) (hV : V ≤ 60) (hi : i ≤ 4611686018427387904) (w : World) :
    Calls Try.prog 71 #[.int .i64 i, .int .i64 V] w (MadeBs w (modelN i V)) := by
  obtain ⟨i0, hi0, hz0, hz1, hz2⟩ := info_parts boolInfo3
  go_enter Try.func71, Try.ntmps71
  go_wp2_with fail
  go_loopw [5, 6] (fun o v wr => ∃ (k : Nat) (O : Option Addr) (oc : Nat), k ≤ V ∧ v = .int .i64 k ∧ o = .slice O k oc ∧ wr.ownsRow w.heap.size 4 1 (.slice O k oc) k ((modelN i k).map Value.bool) ∧ Below w.heap.size w wr) (fun _ v _ => V - (intOf v).toNat)
  case atStart => exact ⟨0, none, 0, by omega, rfl, rfl, World.ownsRow_nil _ _ _ _, Below.refl _ _⟩
  case round =>
    obtain ⟨k, O, oc, hk, rfl, rfl, hown, hb⟩ := hrel
    have hB := hb.size
    have Hown := hide hown
    have Hb := hide hb
    clear hown hb
    by_cases hlt : k < V
    · have h1 : IntKind.u64.wrap (k : Int) = (k : Int) := by rw [IntWalk.u64_in _ (by omega)]
      have h2 : min k 64 = k := by omega
      have hbit := bitN_int i k
      obtain ⟨u, hu⟩ : ∃ u, u = decide (i / 2 ^ k % 2 = 1) := ⟨_, rfl⟩
      rw [← hu] at hbit
      have hms := modelN_succ i k
      rw [← hu] at hms
      have Hms := hide hms
      clear hms hu
      go_wp2_with
        (at_builtin
         refine wpList_pushA rfl _ _ 52 rfl w.heap.size 4 i0 (.bool false) 1 1 Try.underlying52 hi0 hz0 hz1 hz2 rfl (by decide) _ _ _ rfl Hown.out [.bool u] rfl (by intro u hu; simp at hu; subst hu; rfl) rfl (by omega) (by omega) hB ?_
         intro O6 oc6 w6 hown6 hg6 hat6
         have hbl := ((Hb.out.alloc hB (.cells #[.bool u] 4))).grown hg6 (by simp; omega) (fun k hk => own_base Hown.out hk)
         have Hown6 := hide hown6
         have Hbl := hide hbl
         clear hown6 hg6 hat6 hbl)
      go_roundw
      case rel => exact ⟨k + 1, O6, oc6, by omega, by go_num, rfl, by rw [Hms.out, List.map_append]; exact Hown6.out, Hbl.out⟩
      case measure => simp [intOf]; omega
    · obtain rfl : k = V := by omega
      go_wp2_with fail
      go_ret
      exact ⟨Hb.out, O, oc, by rw [modelN_len]; rfl, by rw [modelN_len]; exact Hown.out⟩

theorem satR_none {V : Nat} {cs : List (List Int)} (h : ∀ j, j < 2 ^ V → trueAll cs (modelN j V) = false) : satR V cs = false := by
  unfold satR
  rw [List.any_eq_false]
  intro i hi
  rw [h i (List.mem_range.1 hi)]
  simp
set_option maxHeartbeats 1600000 in
theorem Satisfiable_ct (V : Nat) (A : Option Addr) (n c : Nat) (cs : List (List Int)) (w : World) (hV : V ≤ 30) (h : Rd (Enc.sl Enc.int) w A n c cs) (hf : ∀ l ∈ cs, ∀ x ∈ l, Fits V x) :
    Calls Try.prog 32 #[.agg #[.int .i64 V, .slice A n c]] w (Gives w (.bool (satR V cs))) := by
  have hp : 2 ^ V ≤ 1073741824 := Nat.le_trans (Nat.pow_le_pow_right (by omega) hV) (by decide)
  have hsh : ((2 : Int) ^ V) = ((2 ^ V : Nat) : Int) := by simp
  have Hyes := hide (fun (m : List Bool) (h1 : m.length = V) (h2 : trueAll cs m = true) => satR_of h1 h2)
  have Hno := hide (satR_none (V := V) (cs := cs))
  generalize 2 ^ V = P at *
  have hb0 := Blk.new w 51 [.int .i64 V, .slice A n c]
  have hbl0 : Below w.heap.size w (w.alloc (.cells #[.int .i64 V, .slice A n c] 51)) := (Below.refl _ _).alloc (Nat.le_refl _) _
  have hw1 : IntKind.u64.wrap (V : Int) = (V : Int) := by rw [IntWalk.u64_in _ (by omega)]
  have Hb0 := hide hb0
  have Hbl0 := hide hbl0
  have Hrd := hide h
  have Hf := hide hf
  clear h hf hb0 hbl0
  go_enter Try.func32, Try.ntmps32
  go_wp2_with fail
  go_loopw [3] (fun i wr => ∃ (k : Nat), k ≤ P ∧ i = .int .i64 k ∧ (∀ j, j < k → trueAll cs (modelN j V) = false) ∧ Below w.heap.size w wr ∧ Blk 51 wr w.heap.size [.int .i64 V, .slice A n c]) (fun i _ => P - (intOf i).toNat)
  case atStart => exact ⟨0, by omega, rfl, (fun j h => by omega), Hbl0.out, Hb0.out⟩
  case round =>
    obtain ⟨k, hk, rfl, hall, hbr, hbx⟩ := hrel
    have f0 := hbx.cell 0
    have f1 := hbx.cell 1
    have f2 := hbx.lt
    simp only [List.getElem?_cons_zero, List.getElem?_cons_succ] at f0 f1
    have Hbr := hide hbr
    have Hbx := hide hbx
    have Hall := hide hall
    clear hbr hbx hall
    by_cases hlt : k < P
    · have hmem : trueAll cs (modelN k V) = true → satR V cs = true := Hyes.out _ (modelN_len k V)
      have Hmem := hide hmem
      clear hmem
      rcases ht : trueAll cs (modelN k V) with _ | _
      · have Ht := hide ht
        clear ht
        go_wp2_with fail
        go_region_held3 (fun w' => w'.cell? ⟨w.heap.size, 0, none⟩ = some (.int .i64 V) ∧ w'.cell? ⟨w.heap.size, 1, none⟩ = some (.slice A n c)) (first | go_keep) (first
          | (go_at_call 71
             with_reducible refine (Model_ct k V (by omega) (by omega) _).mono ?_
             rintro e wm ⟨hbm, Am, cm, rfl, hom⟩
             rw [modelN_len] at hom ⊢
             have Hom := hide hom
             have Hbm := hide hbm
             have hkm := (Hbx.out.qt (Qt.refl wr).drew).keep hbm
             obtain ⟨k0, k1⟩ := hkm.cell2
             clear hom hbm hkm)
          | (go_at_call 33
             refine (Satisfies_ct A Am n c V cm cs (modelN k V) _ ((Hrd.out.keep ((Hbr.out.drew).trans (Hbm.out.mono (by have := Hbr.out.size; exact this))))) (own_rdb Hom.out (modelN_len k V)) (by omega) Hf.out).mono ?_
             rintro e ws ⟨rfl, rfl⟩))
        rw [Ht.out]
        have hbw := ((Hbr.out.drew).trans (Hbm.out.mono (by have := Hbr.out.size; exact this)))
        have hbx2 := (Hbx.out.qt (Qt.refl wr).drew).keep Hbm.out
        have Hbw := hide hbw
        have Hbx2 := hide hbx2
        clear hbw hbx2
        go_wp2_with fail
        go_roundw
        case rel =>
          refine ⟨k + 1, by omega, by go_num, fun j hj => ?_, Hbw.out, Hbx2.out⟩
          by_cases e : j = k
          · rw [e]; exact Ht.out
          · exact Hall.out j (by omega)
        case measure => simp [intOf]; omega
      · have Ht := hide ht
        clear ht
        go_wp2_with fail
        go_region_held3 (fun w' => w'.cell? ⟨w.heap.size, 0, none⟩ = some (.int .i64 V) ∧ w'.cell? ⟨w.heap.size, 1, none⟩ = some (.slice A n c)) (first | go_keep) (first
          | (go_at_call 71
             with_reducible refine (Model_ct k V (by omega) (by omega) _).mono ?_
             rintro e wm ⟨hbm, Am, cm, rfl, hom⟩
             rw [modelN_len] at hom ⊢
             have Hom := hide hom
             have Hbm := hide hbm
             have hkm := (Hbx.out.qt (Qt.refl wr).drew).keep hbm
             obtain ⟨k0, k1⟩ := hkm.cell2
             clear hom hbm hkm)
          | (go_at_call 33
             refine (Satisfies_ct A Am n c V cm cs (modelN k V) _ ((Hrd.out.keep ((Hbr.out.drew).trans (Hbm.out.mono (by have := Hbr.out.size; exact this))))) (own_rdb Hom.out (modelN_len k V)) (by omega) Hf.out).mono ?_
             rintro e ws ⟨rfl, rfl⟩))
        rw [Ht.out]
        have hbw := ((Hbr.out.drew).trans (Hbm.out.mono (by have := Hbr.out.size; exact this)))
        have Hbw := hide hbw
        clear hbw
        go_wp2_with fail
        go_ret
        exact ⟨by rw [Hmem.out Ht.out]; rfl, Hbw.out⟩
    · obtain rfl : k = P := by omega
      go_wp2_with fail
      go_ret
      exact ⟨by rw [Hno.out Hall.out]; rfl, Hbr.out⟩
end Go.Proofs.Ytnfeknfakkdbhaa
