/- Contracts of clauses.Assume and Close. -/
import Derived.Test.YtnfeknfakkdbhaaCl
namespace Go.Proofs.Ytnfeknfakkdbhaa
open Go.RowKit

theorem valOf_eq {vals : List Int} {x u : Int} {q : Nat} (hq : (q : Int) = litVar x) (hu : vals[q]? = some u) : valOf vals x = u := by
  rw [valOf, ← hq, Int.toNat_natCast, List.getD_eq_getElem?_getD, hu, Option.getD_some]

/-- an assignment's values -/
def Vals (n : Nat) (vals : List Int) : Prop := vals.length = n ∧ ∀ y ∈ vals, y = -1 ∨ y = 0 ∨ y = 1
theorem Vals.set {n : Nat} {vals : List Int} (h : Vals n vals) (x : Int) : Vals n (setLit vals x) := ⟨(setLit_len _ _).trans h.1, setLit_mem h.2⟩
theorem Vals.get {n : Nat} {vals : List Int} (h : Vals n vals) {q : Nat} (hq : q < n) : ∃ u, vals[q]? = some u ∧ -1 ≤ u ∧ u ≤ 1 :=
  ⟨_, List.getElem?_eq_getElem (by rw [h.1]; exact hq), by have := h.2 _ (List.getElem_mem (l := vals) (n := q) (by rw [h.1]; exact hq)); omega, by have := h.2 _ (List.getElem_mem (l := vals) (n := q) (by rw [h.1]; exact hq)); omega⟩
theorem Vals.zeros (n : Nat) : Vals n (List.replicate n 0) := ⟨List.length_replicate, fun y hy => by rw [(List.mem_replicate.1 hy).2]; omega⟩

theorem assume_go {vals : List Int} {x u : Int} {xs : List Int} (hv : valOf vals x = u) (h : u = 0 ∨ (u != 0) = false ∨ (!decide (0 < u) == decide (0 < x)) = false) : assume vals (x :: xs) = assume (setLit vals x) xs := by
  rw [assume, hv, if_neg]
  rintro ⟨h1, h2⟩
  simp [h1, h2] at h
theorem assume_stop {vals : List Int} {x u : Int} {xs : List Int} (hv : valOf vals x = u) (h : (u != 0) = true ∧ (!decide (0 < u) == decide (0 < x)) = true) : assume vals (x :: xs) = none := by
  rw [assume, hv, if_pos]
  simpa using h

/-- what Assume hands back -/
def Assumed (w : World) (v : Nat) (xs : List Int) (e : Ending) (w' : World) : Prop :=
  Below w.heap.size w w' ∧ ((assume (List.replicate (v + 1) 0) xs = none ∧ e = .returned (.tuple #[.slice none 0 0, .bool false])) ∨
    ∃ vals, assume (List.replicate (v + 1) 0) xs = some vals ∧ Vals (v + 1) vals ∧ e = .returned (.tuple #[.slice (some ⟨w.heap.size, 0, none⟩) (v + 1) (v + 1), .bool true]) ∧ BlkI 3 w' w.heap.size vals)

set_option maxRecDepth 100000 in
set_option maxHeartbeats 800000 in
theorem Assume_ct (v : Nat) (A : Option Addr) (n c : Nat) (xs : List Int) (w : World) (hv : v ≤ 1000) (h : Rd Enc.int w A n c xs) (hf : ∀ x ∈ xs, Fits v x) :
    Calls Try.prog 75 #[.int .i64 v, .slice A n c] w (Assumed w v xs) := by
  have hsm := h.low
  have Hl := Lib.hid h.len
  obtain ⟨i0, hi0, hz0, hz1, hz2⟩ := info_parts Try.intInfo
  have hmk := fun w => run_make_ints (P := Try.prog) 22 3 i0 Try.underlying22 hi0 hz0 hz1 hz2 (v + 1) (by omega) w
  have hw2 : Below w.heap.size w (w.alloc (.cells (zerosA (v + 1)) 3)) := (Below.refl _ _).alloc (Nat.le_refl _) _
  have hB := BlkI.made w 3 (v + 1)
  have Hw2 := hide hw2
  have HB := hide hB
  have Hf := hide hf
  clear hw2 hB hf
  simp only [Int.natCast_add, Int.natCast_one] at hmk
  go_enter Try.func75, Try.ntmps75
  go_wp2
  go_loopw [15] (fun i wr => ∃ (k : Nat) (vals : List Int), k ≤ n ∧ i = .int .i64 k ∧ Vals (v + 1) vals ∧ BlkI 3 wr w.heap.size vals ∧ Below w.heap.size w wr ∧
    assume (List.replicate (v + 1) 0) xs = assume vals (xs.drop k)) (fun i _ => n - (intOf i).toNat)
  case atStart => exact ⟨0, _, by omega, rfl, Vals.zeros _, HB.out, Hw2.out, by simp⟩
  case round =>
    obtain ⟨k, vals, hk, rfl, hvals, hblk, hbl, hrel⟩ := hrel
    have Hblk := hide hblk
    have Hbl := hide hbl
    by_cases hlt : k < n
    · obtain ⟨b, off, x, rfl, hx, hxl, hxh, hcx⟩ := (h.keep hbl).int hlt
      rw [drop_cons hx] at hrel
      have hfx := Hf.out x (List.mem_of_getElem? hx)
      have hxv := hfx.var
      have hx0 := hfx.1
      have hx1 := hfx.2.1
      have hx2 := hfx.2.2
      obtain ⟨q, hq⟩ : ∃ q : Nat, (q : Int) = litVar x := ⟨(litVar x).toNat, by omega⟩
      obtain ⟨u, hu, hu1, hu2⟩ := hvals.get (show q < v + 1 by omega)
      have hcu := hblk.cell hu
      have hval := valOf_eq hq hu
      have hqv : q < v + 1 := by omega
      have Hrel := hide hrel
      have Hvals := hide hvals
      have HV := hide hq
      have Hu := hide hval
      clear hrel hx hu hval hq hvals hblk hbl hfx
      go_wp2_with (first
        | (go_at_call 106; refine (Variable_ct _ _ (by omega) (by omega)).mono ?_; rintro e w1 ⟨rfl, rfl⟩; rw [← HV.out]))
      · refine (set_ct w.heap.size (v + 1) (v + 1) x vals wr Hblk.out Hvals.out.1 (by omega) hx0 (by omega) (by omega)).mono ?_
        rintro e w1 ⟨he, hb1, hg1⟩
        unfold Ends at he
        subst he
        go_wp2
        go_roundw
        case rel => exact ⟨k + 1, _, by omega, by go_num, Hvals.out.set x, hb1, below_only Hbl.out hg1 Hbl.out.size (Nat.le_refl _), Hrel.out.trans (assume_go Hu.out (.inl (by assumption)))⟩
        case measure => simp [intOf]; omega
      · have hh : (u != 0) = true ∧ (!decide (0 < u) == decide (0 < x)) = true := by assumption
        go_ret2
        exact ⟨Hbl.out, .inl ⟨Hrel.out.trans (assume_stop Hu.out hh), rfl⟩⟩
      · have hh : (u != 0) = false ∨ (!decide (0 < u) == decide (0 < x)) = false := by assumption
        have Hh := hide hh
        clear hh
        refine (set_ct w.heap.size (v + 1) (v + 1) x vals wr Hblk.out Hvals.out.1 (by omega) hx0 (by omega) (by omega)).mono ?_
        rintro e w1 ⟨he, hb1, hg1⟩
        unfold Ends at he
        subst he
        go_wp2
        go_roundw
        case rel => exact ⟨k + 1, _, by omega, by go_num, Hvals.out.set x, hb1, below_only Hbl.out hg1 Hbl.out.size (Nat.le_refl _), Hrel.out.trans (assume_go Hu.out (.inr Hh.out))⟩
        case measure => simp [intOf]; omega
    · have Hrel := hide hrel
      have Hvals := hide hvals
      clear hrel hvals hblk hbl
      go_wp2
      go_ret2
      refine ⟨Hbl.out, .inr ⟨vals, ?_, Hvals.out, rfl, Hblk.out⟩⟩
      rw [Hrel.out, List.drop_of_length_le (by rw [Hl.out]; omega), assume]

/-- what Close hands back, and what the assignment holds behind it -/
def ClosedTo (w : World) (g n : Nat) (R : Option (List Int)) (e : Ending) (w' : World) : Prop :=
  w.grownBy w' (some g) ∧ ((R = none ∧ e = .returned (.bool false)) ∨ ∃ vals, R = some vals ∧ e = .returned (.bool true) ∧ BlkI 3 w' g vals ∧ Vals n vals)

theorem scan_step0 {vals : List Int} {x u f : Int} {n : Nat} {b : Bool} {xs : List Int} (hv : valOf vals x = u) (h : u = 0) : scan vals (x :: xs) (f, n, b) = scan vals xs (x, n + 1, b) := by
  rw [scan, hv, if_pos h]
theorem scan_step1 {vals : List Int} {x u f : Int} {n : Nat} {b : Bool} {xs : List Int} (hv : valOf vals x = u) (h : ¬ u = 0) (h2 : (decide (0 < u) == decide (0 < x)) = true) : scan vals (x :: xs) (f, n, b) = scan vals xs (f, n, true) := by
  rw [scan, hv, if_neg h, if_pos (by simpa using h2)]
theorem scan_step2 {vals : List Int} {x u f : Int} {n : Nat} {b : Bool} {xs : List Int} (hv : valOf vals x = u) (h : ¬ u = 0) (h2 : (decide (0 < u) == decide (0 < x)) = false) : scan vals (x :: xs) (f, n, b) = scan vals xs (f, n, b) := by
  rw [scan, hv, if_neg h, if_neg (by simpa using h2)]

set_option maxRecDepth 100000 in
set_option maxHeartbeats 1600000 in
theorem Close_ct (v : Nat) (A : Option Addr) (n c g : Nat) (cs : List (List Int)) (vals : List Int) (w0 w : World) (hv : v ≤ 1000) (h : Rd (Enc.sl Enc.int) w0 A n c cs) (hf : ∀ l ∈ cs, ∀ x ∈ l, Fits v x)
    (hw : Below w0.heap.size w0 w) (hg : w0.heap.size ≤ g) (hb : BlkI 3 w g vals) (hvals : Vals (v + 1) vals) :
    Calls Try.prog 76 #[.slice A n c, .slice (some ⟨g, 0, none⟩) (v + 1) (v + 1)] w (ClosedTo w g (v + 1) (close cs (v + 2) vals)) := by
  have hsm := h.low
  have Hl := Lib.hid h.len
  have Hf := hide hf
  have Hw := hide hw
  have Hb := hide hb
  have Hvals := hide hvals
  have Hlit : Hid (∀ l ∈ cs, ∀ x ∈ l, (litVar x).toNat < v + 1) := fun l hl x hx => by have := (hf l hl x hx).var; omega
  clear hf hw hb hvals
  go_enter Try.func76, Try.ntmps76
  go_wp2
  go_loopg [5] (v + 2) (fun gk ag wr => ∃ (vs : List Int) (b : Bool), ag = .bool b ∧ Vals (v + 1) vs ∧ BlkI 3 wr g vs ∧ w.grownBy wr (some g) ∧ (if b = true then close cs gk vs = close cs (v + 2) vals ∧ zeros vs < gk else some vs = close cs (v + 2) vals))
  case atStart =>
    refine ⟨vals, true, rfl, Hvals.out, Hb.out, only_refl _ _, ?_⟩
    rw [if_pos rfl]
    refine ⟨rfl, ?_⟩
    have := Hvals.out.1
    have := List.countP_le_length (p := (· == 0)) (l := vals)
    unfold zeros
    omega
  case round =>
    obtain ⟨vs, b, rfl, hvs, hblk, hgr, hrel⟩ := hrel
    have Hvs := hide hvs
    have Hblk := hide hblk
    have Hgr := hide hgr
    clear hvs hblk hgr
    cases b with
    | false =>
      rw [if_neg (by decide)] at hrel
      have Hrel := hide hrel
      clear hrel
      go_wp2
      go_ret
      exact ⟨Hgr.out, .inr ⟨vs, Hrel.out.symm, rfl, Hblk.out, Hvs.out⟩⟩
    | true =>
      rw [if_pos rfl] at hrel
      obtain ⟨hrel, hz⟩ := hrel
      obtain ⟨gk, rfl⟩ : ∃ j, gk = j + 1 := ⟨gk - 1, by omega⟩
      have Hrel := hide hrel
      clear hrel
      go_wp2
      obtain ⟨wo, hwo⟩ : ∃ wo : World, wo = wr := ⟨_, rfl⟩
      have Hwo := hide hwo
      clear hwo
      go_loopw [5, 17] (fun ag i wr => ∃ (k : Nat) (us : List Int) (b : Bool), k ≤ n ∧ i = .int .i64 k ∧ ag = .bool b ∧ Vals (v + 1) us ∧ BlkI 3 wr g us ∧ w.grownBy wr (some g) ∧ pass cs vs false = pass (cs.drop k) us b) (fun _ i _ => n - (intOf i).toNat)
      case atStart => exact ⟨0, vs, false, by omega, rfl, rfl, Hvs.out, Hblk.out, Hgr.out, by simp⟩
      case round =>
        obtain ⟨k, us, b, hk, rfl, rfl, hus, hblk1, hgr1, hrel1⟩ := hrel
        have Hus := hide hus
        have Hblk1 := hide hblk1
        have Hgr1 := hide hgr1
        have Hbel := hide (below_only Hw.out hgr1 Hw.out.size hg)
        clear hus hblk1 hgr1
        by_cases hlt : k < n
        · obtain ⟨b0, off, l, A', n', c', rfl, hl, hcx, hrx⟩ := (h.keep Hbel.out).sl hlt
          rw [drop_cons hl] at hrel1
          have hlf := Hf.out l (List.mem_of_getElem? hl)
          have Hlf := hide hlf
          have Hrel1 := hide hrel1
          have hsm' := hrx.low
          have Hl' := hide hrx.len
          clear hl hlf hrel1
          go_wp2
          go_loop [8, 9, 10, 23] (fun s8 s9 s10 j => ∃ (kk : Nat) (f : Int) (m : Nat) (hb : Bool), kk ≤ n' ∧ j = .int .i64 kk ∧ s8 = .int .i64 f ∧ s9 = .int .i64 m ∧ s10 = .bool hb ∧ m ≤ kk ∧ (m = 0 → f = 0) ∧ (0 < m → Fits v f) ∧ scan us l (0, 0, false) = scan us (l.drop kk) (f, m, hb)) (fun _ _ _ j => n' - (intOf j).toNat)
          case atStart => exact ⟨0, 0, 0, false, by omega, rfl, rfl, rfl, rfl, by omega, fun _ => rfl, fun h => absurd h (by omega), by simp⟩
          case round =>
            obtain ⟨kk, f, m, hbb, hkk, rfl, rfl, rfl, rfl, hm, hm0, hm1, hrel2⟩ := hrel
            by_cases hlt2 : kk < n'
            · obtain ⟨b1, off1, x, rfl, hx, hxl, hxh, hcx1⟩ := hrx.int hlt2
              rw [drop_cons hx] at hrel2
              have hfx := Hlf.out x (List.mem_of_getElem? hx)
              have hxv := hfx.var
              have hx1 := hfx.2.1
              have hx2 := hfx.2.2
              obtain ⟨q, hq⟩ : ∃ q : Nat, (q : Int) = litVar x := ⟨(litVar x).toNat, by omega⟩
              obtain ⟨u, hu, hu1, hu2⟩ := Hus.out.get (show q < v + 1 by omega)
              have hcu := Hblk1.out.cell hu
              have Hu := hide (valOf_eq hq hu)
              have hqv : q < v + 1 := by omega
              have Hrel2 := hide hrel2
              have HV := hide hq
              have Hfx := hide hfx
              have Hm0 := hide hm0
              have Hm1 := hide hm1
              clear hrel2 hx hu hq hfx hm0 hm1
              go_wp2_with (go_at_call 106; refine (Variable_ct _ _ (by omega) (by omega)).mono ?_; rintro e w1 ⟨rfl, rfl⟩; rw [← HV.out])
              · have hh : (u == 0) = true := by assumption
                have hh := beq_iff_eq.1 hh
                go_round
                case rel => exact ⟨kk + 1, x, m + 1, hbb, by omega, by go_num, rfl, by go_num, rfl, by omega, fun h => absurd h (by omega), fun _ => Hfx.out, Hrel2.out.trans (scan_step0 Hu.out hh)⟩
                case measure => simp [intOf]; omega
              · have hh : (u == 0) = false := by assumption
                have hh := beq_eq_false_iff_ne.1 hh
                have hh2 : (decide (0 < u) == decide (0 < x)) = true := by assumption
                go_round
                case rel => exact ⟨kk + 1, f, m, true, by omega, by go_num, rfl, rfl, rfl, by omega, Hm0.out, Hm1.out, Hrel2.out.trans (scan_step1 Hu.out hh hh2)⟩
                case measure => simp [intOf]; omega
              · have hh : (u == 0) = false := by assumption
                have hh := beq_eq_false_iff_ne.1 hh
                have hh2 : (decide (0 < u) == decide (0 < x)) = false := by assumption
                go_round
                case rel => exact ⟨kk + 1, f, m, hbb, by omega, by go_num, rfl, rfl, rfl, by omega, Hm0.out, Hm1.out, Hrel2.out.trans (scan_step2 Hu.out hh hh2)⟩
                case measure => simp [intOf]; omega
            · have hscan : scan us l (0, 0, false) = (f, m, hbb) := by
                rw [hrel2, List.drop_of_length_le (by rw [Hl'.out]; omega), scan]
              have Hscan := hide hscan
              have Hm0 := hide hm0
              have Hm1 := hide hm1
              clear hscan hrel2 hm0 hm1
              by_cases hgo : hbb = true ∨ 1 < m
              · have hp : pass cs vs false = pass (cs.drop (k + 1)) us b := by
                  rw [Hrel1.out, pass, Hscan.out]
                  simp only [if_pos hgo]
                have Hp := hide hp
                clear hp
                cases hbb with
                | true =>
                  clear hgo
                  go_wp2
                  go_roundw
                  case rel => exact ⟨k + 1, us, b, by omega, by go_num, rfl, Hus.out, Hblk1.out, Hgr1.out, Hp.out⟩
                  case measure => simp [intOf]; omega
                | false =>
                  have hm2 : 1 < m := by simpa using hgo
                  clear hgo
                  go_wp2
                  go_roundw
                  case rel => exact ⟨k + 1, us, b, by omega, by go_num, rfl, Hus.out, Hblk1.out, Hgr1.out, Hp.out⟩
                  case measure => simp [intOf]; omega
              · obtain rfl : hbb = false := by simpa using fun h => hgo (.inl h)
                have hm2 : m ≤ 1 := by omega
                by_cases hm3 : m = 0
                · subst hm3
                  have hp : close cs (gk + 1) vs = none := by
                    rw [close, Hrel1.out, pass, Hscan.out]
                    simp only [if_neg hgo, if_pos]
                  have Hp := hide hp
                  clear hp hgo
                  go_wp2
                  go_ret
                  exact ⟨Hgr1.out, .inl ⟨Hrel.out.symm.trans Hp.out, rfl⟩⟩
                · obtain rfl : m = 1 := by omega
                  have hp : pass cs vs false = pass (cs.drop (k + 1)) (setLit us f) true := by
                    rw [Hrel1.out, pass, Hscan.out]
                    simp only [if_neg hgo, if_neg (show ¬ (1 : Nat) = 0 by omega)]
                  have Hp := hide hp
                  have hff := Hm1.out (by omega)
                  have hf0 := hff.1
                  have hf1 := hff.2.1
                  have hf2 := hff.2.2
                  clear hp hgo hff
                  go_wp2_with fail
                  refine (set_ct g (v + 1) (v + 1) f us wr Hblk1.out Hus.out.1 (by omega) hf0 (by omega) (by omega)).mono ?_
                  rintro e w1 ⟨he, hb1, hg1⟩
                  unfold Ends at he
                  subst he
                  go_wp2
                  go_roundw
                  case rel => exact ⟨k + 1, _, true, by omega, by go_num, rfl, Hus.out.set f, hb1, only_trans Hgr1.out hg1, Hp.out⟩
                  case measure => simp [intOf]; omega
        · have hp : pass cs vs false = some (us, b) := by
            rw [hrel1, List.drop_of_length_le (by rw [Hl.out]; omega), pass]
          have Hp := hide hp
          clear hp hrel1
          go_wp2
          go_roundg gk
          case measure => omega
          case rel =>
            refine ⟨us, b, rfl, Hus.out, Hblk1.out, Hgr1.out, ?_⟩
            have hr := Hrel.out
            rw [close, Hp.out] at hr
            have hz2 := pass_zeros (fun c hc x hx => by rw [Hvs.out.1]; exact Hlit.out c hc x hx) Hp.out
            cases b with
            | true =>
              simp only [if_true] at hr ⊢
              exact ⟨hr, by have := hz2.2 rfl; simp at this; omega⟩
            | false => simpa using hr
end Go.Proofs.Ytnfeknfakkdbhaa
