/- strips.Steps. -/
import Derived.Test.YtnfeknfakkdbhaaMc3
namespace Go.Proofs.Ytnfeknfakkdbhaa
set_option linter.unusedVariables false
set_option linter.unusedSimpArgs false
open Go.RowKit

/-- the fault of a plan over k operators -/
def stepsFault (k : Nat) (l : List Int) : Int × Int := if 60 < l.length then (2, -5) else if l.any (outB k) = true then (3, -6) else (0, 0)
theorem any_succ {p : Int → Bool} {l : List Int} {k : Nat} {x : Int} (h : (l.take k).any p = false) (hx : l[k]? = some x) (hp : p x = false) : (l.take (k + 1)).any p = false := by
  rw [List.take_add_one, List.any_append, h, hx]
  simp [hp]
set_option maxRecDepth 100000 in
set_option maxHeartbeats 1600000 in
theorem Steps_ct (n : Nat) (A : Option Addr) (m c : Nat) (l : List Int) (w : World) (h : Rd Enc.int w A m c l) (hn : n ≤ 9223372036854775807) :
    Calls Try.prog 65 #[.int .i64 n, .slice A m c] w (Gives w (fault (stepsFault n l).1 (stepsFault n l).2)) := by
  have hsm := h.low
  have hX := Blk.new w 29 [.int .i64 0, .int .i64 0]
  have y0 := hX.cell 0
  have y1 := hX.cell 1
  have y2 := hX.frozen 0
  have y3 := hX.frozen 1
  simp only [List.getElem?_cons_zero, List.getElem?_cons_succ] at y0 y1
  have hbw : Below w.heap.size w (w.alloc (.cells #[.int .i64 0, .int .i64 0] 29)) := (Below.refl _ _).alloc (Nat.le_refl _) _
  have Hbw := hide hbw
  have Hl := hide h.len
  have H := hide (h.keep hbw)
  clear h hbw hX
  by_cases h1 : 60 < m
  · have hres : stepsFault n l = (2, -5) := by unfold stepsFault; rw [Hl.out, if_pos h1]
    rw [hres]
    clear hres
    go_enter Try.func65, Try.ntmps65
    go_wp2_with fail
    exact bodyPost_ret (v := fault 2 (-5)) (by simp [results, Try.results65, go_sem, fault]) rfl ⟨rfl, (Below.refl _ _).alloc (Nat.le_refl _) _⟩
  · have hres : stepsFault n l = if l.any (outB n) = true then (3, -6) else (0, 0) := by unfold stepsFault; rw [Hl.out, if_neg h1]
    have Hres := hide hres
    clear hres
    go_enter Try.func65, Try.ntmps65
    go_upto_region 3 with (fail)
    obtain ⟨W0, hW0⟩ : ∃ W0, W0 = w.alloc (.cells #[.int .i64 0, .int .i64 0] 29) := ⟨_, rfl⟩
    rw [← hW0] at H Hbw y0 y1 y2 y3 ⊢
    clear hW0
    obtain ⟨gb, hgb⟩ : ∃ gb, gb = w.heap.size := ⟨_, rfl⟩
    rw [← hgb] at y0 y1 y2 y3 ⊢
    have Hgb := hide hgb
    clear hgb
    go_wp2_with fail
    go_loop [13] (fun i => ∃ k : Nat, k ≤ m ∧ i = .int .i64 k ∧ (l.take k).any (outB n) = false) (fun i => m - (intOf i).toNat)
    case atStart => exact ⟨0, by omega, rfl, by simp⟩
    case round =>
      obtain ⟨k, hk, rfl, hset⟩ := hrel
      have Hset := hide hset
      clear hset
      by_cases hlt : k < m
      · obtain ⟨b, off, x, rfl, hx, hx1, hx2, hcx⟩ := H.out.int hlt
        have Hx := hide hx
        clear hx
        have hbad : outB n x = true → stepsFault n l = (3, -6) := fun hb => by
          rw [Hres.out, if_pos (List.any_eq_true.2 ⟨x, List.mem_of_getElem? Hx.out, hb⟩)]
        have Hbad := hide hbad
        clear hbad
        by_cases h0 : x < 0
        · have hres := Hbad.out (by unfold outB; rw [decide_eq_true_iff]; omega)
          have Hr := hide hres
          clear hres
          go_wp2_with fail
          exact bodyPost_ret (v := fault 3 (-6)) (by simp [results, Try.results65, go_sem, fault, y0, y1]) rfl ⟨by rw [Hr.out], below_res2 Hbw.out (by have := Hgb.out; omega) _ _⟩
        · by_cases h2 : (n : Int) ≤ x
          · have hres := Hbad.out (by unfold outB; rw [decide_eq_true_iff]; omega)
            have Hr := hide hres
            clear hres
            go_wp2_with fail
            exact bodyPost_ret (v := fault 3 (-6)) (by simp [results, Try.results65, go_sem, fault, y0, y1]) rfl ⟨by rw [Hr.out], below_res2 Hbw.out (by have := Hgb.out; omega) _ _⟩
          · go_wp2_with fail
            go_round
            case rel => exact ⟨k + 1, by omega, by go_num, any_succ Hset.out Hx.out (by unfold outB; rw [decide_eq_false_iff_not]; omega)⟩
            case measure => simp [intOf]; omega
      · obtain rfl : k = m := by omega
        have hres := Hres.out
        have hs := Hset.out
        rw [List.take_of_length_le (by rw [Hl.out]; omega)] at hs
        rw [hs, if_neg (by simp)] at hres
        have Hr := hide hres
        clear hres hs
        go_wp2_with fail
        exact bodyPost_ret (v := fault 0 0) (by simp [results, Try.results65, go_sem, fault, y0, y1]) rfl ⟨by rw [Hr.out], below_res2 Hbw.out (by have := Hgb.out; omega) _ _⟩
end Go.Proofs.Ytnfeknfakkdbhaa
