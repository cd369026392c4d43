/- Contracts of the reference's Copy, ByVariable, Units. -/
import Derived.Test.YtnfeknfakkdbhaaRef6a
namespace Go.Proofs.Ytnfeknfakkdbhaa
open Go.RowKit

/-- a list of ints in a row of the call's own -/
def Made (w : World) (l : List Int) (e : Ending) (w' : World) : Prop :=
  Below w.heap.size w w' ∧ ∃ A c, e = .returned (.slice A l.length c) ∧ w'.ownsRow w.heap.size 3 1 (.slice A l.length c) l.length (l.map (Value.int .i64))

theorem Copy_ct (A : Option Addr) (n c : Nat) (xs : List Int) (w : World) (h : Rd Enc.int w A n c xs) (hn : n ≤ 1000000) :
    Calls Try.prog 99 #[.slice A n c] w (Made w xs) := by
  obtain ⟨i0, hi0, hz0, hz1, hz2⟩ := info_parts Try.intInfo
  have Hl := hide h.len
  go_enter Try.func99, Try.ntmps99
  go_wp2_with
    (at_builtin
     refine wpList_append_rd rfl _ _ 22 rfl w.heap.size 3 i0 (.int .i64 0) 8 Try.underlying22 hi0 hz0 hz1 hz2 rfl _ 0 [] rfl (World.ownsRow_nil _ _ _ _) A n c xs h rfl (by omega) (by omega) (Nat.le_refl _) ?_
     intro O oc w1 hown hb)
  go_ret
  refine ⟨hb, O, oc, ?_, ?_⟩
  · rw [Hl.out]
    simp
  · rw [Hl.out]
    simpa using hown

theorem hasB_dec (l : List Int) (n : Int) : hasB l n = decide (n ∈ l) := by rw [Bool.eq_iff_iff, hasB_iff]; simp

/-- one more value, or none -/
theorem byFrom_step (l : List Int) (u n : Nat) (p q : Bool) (hp : hasB l u = p) (hq : hasB l (-u) = q) : byFrom l u (n + 1) = (if p = true then [(u : Int)] else []) ++ (if q = true then [-(u : Int)] else []) ++ byFrom l (u + 1) n := by
  rw [hasB_dec] at hp hq
  subst hp hq
  simp [byFrom]


/-- what Units hands back -/
def Unitd (w : World) (r : Option (List Int)) (e : Ending) (w' : World) : Prop :=
  Below w.heap.size w w' ∧ ((r = none ∧ e = .returned (.tuple #[.slice none 0 0, .bool false])) ∨ ∃ l A n c, r = some l ∧ e = .returned (.tuple #[.slice A n c, .bool true]) ∧ Rd Enc.int w' A n c l)

theorem uscan_hit {known : List Int} {x f : Int} {n : Nat} {b : Bool} {xs : List Int} (h : hasB known x = true) : uscan known (x :: xs) (f, n, b) = uscan known xs (f, n, true) := by
  rw [uscan, if_pos (hasB_iff.1 h)]
theorem uscan_neg {known : List Int} {x f : Int} {n : Nat} {b : Bool} {xs : List Int} (h : hasB known x = false) (h2 : hasB known (-x) = true) : uscan known (x :: xs) (f, n, b) = uscan known xs (f, n, b) := by
  rw [uscan, if_neg (by rw [← hasB_iff, h]; simp), if_pos (hasB_iff.1 h2)]
theorem uscan_open {known : List Int} {x f : Int} {n : Nat} {b : Bool} {xs : List Int} (h : hasB known x = false) (h2 : hasB known (-x) = false) : uscan known (x :: xs) (f, n, b) = uscan known xs (x, n + 1, b) := by
  rw [uscan, if_neg (by rw [← hasB_iff, h]; simp), if_neg (by rw [← hasB_iff, h2]; simp)]
theorem take_rev {α : Type} {l : List α} {k : Nat} {x : α} (h : l[k]? = some x) : (l.take (k + 1)).reverse = x :: (l.take k).reverse := by
  rw [List.take_add_one, h]
  simp

set_option maxHeartbeats 3200000 in
theorem Units_ct (v : Nat) (A : Option Addr) (n c : Nat) (cs : List (List Int)) (hv : v ≤ 1000) (hf : ∀ l ∈ cs, ∀ x ∈ l, Fits v x) (fuel : Nat) :
    ∀ (B : Option Addr) (n' c' : Nat) (known : List Int) (r : Option (List Int)) (w : World), Rd (Enc.sl Enc.int) w A n c cs → Rd Enc.int w B n' c' known → n' + fuel ≤ 100000 → units cs fuel known = some r →
    Calls Try.prog 72 #[.slice A n c, .slice B n' c'] w (Unitd w r) := by
  obtain ⟨i0, hi0, hz0, hz1, hz2⟩ := info_parts Try.intInfo
  have Hf := hide hf
  clear hf
  induction fuel with
  | zero => intro B n' c' known r w _ _ _ h; cases h
  | succ fuel ih =>
    intro B n' c' known r w h hk hn hu
    have Ih := hide ih
    clear ih
    have hsm := h.low
    have Hl := hide h.len
    have Hu := hide hu
    clear hu
    go_enter Try.func72, Try.ntmps72
    go_wp2
    go_loop [6] (fun i => ∃ (k : Nat) (q : Int), k ≤ n ∧ i = .int .i64 q ∧ q = (k : Int) - 1 ∧ urun known cs.reverse = urun known (cs.take k).reverse) (fun i => (intOf i + 1).toNat)
    case atStart => exact ⟨n, _, by omega, rfl, rfl, by rw [List.take_of_length_le (by rw [Hl.out]; omega)]⟩
    case round =>
      obtain ⟨k, q, hkn, rfl, hq, hrel⟩ := hrel
      cases k with
      | zero =>
        obtain rfl : q = -1 := by omega
        have hr : r = some known := by
          have := Hu.out
          rw [units, hrel] at this
          simpa [urun] using this.symm
        have Hr := hide hr
        clear hrel hq hr
        go_wp2
        go_ret2
        exact ⟨Below.refl _ _, .inr ⟨known, B, n', c', Hr.out, rfl, hk⟩⟩
      | succ k =>
        obtain rfl : q = (k : Int) := by omega
        obtain ⟨b, off, l, A', n1, c1, rfl, hl, hcx, hrx⟩ := h.sl (show k < n by omega)
        rw [take_rev hl] at hrel
        have hlf := Hf.out l (List.mem_of_getElem? hl)
        have Hlf := hide hlf
        have Hrel := hide hrel
        have hsm1 := hrx.low
        have hkn' : k < n := by omega
        have Hl1 := hide hrx.len
        clear hl hlf hrel hq
        go_wp2
        go_loop [7, 8, 9, 10] (fun s7 s8 s9 j => ∃ (kk : Nat) (f : Int) (m : Nat) (hb : Bool), kk ≤ n1 ∧ j = .int .i64 kk ∧ s7 = .int .i64 f ∧ s8 = .int .i64 m ∧ s9 = .bool hb ∧ m ≤ kk ∧ (-1000 ≤ f ∧ f ≤ 1000) ∧ uscan known l (0, 0, false) = uscan known (l.drop kk) (f, m, hb)) (fun _ _ _ j => n1 - (intOf j).toNat)
        case atStart => exact ⟨0, 0, 0, false, by omega, rfl, rfl, rfl, rfl, by omega, by omega, by simp⟩
        case round =>
          obtain ⟨kk, f, m, hbb, hkk, rfl, rfl, rfl, rfl, hm, hff, hrel2⟩ := hrel
          by_cases hlt2 : kk < n1
          · obtain ⟨b1, off1, x, rfl, hx, hxl, hxh, hcx1⟩ := hrx.int hlt2
            rw [drop_cons hx] at hrel2
            have hfx := Hlf.out x (List.mem_of_getElem? hx)
            have hx1 := hfx.2.1
            have hx2 := hfx.2.2
            rcases hp : hasB known x with _ | _ <;> rcases hq : hasB known (-x) with _ | _
            all_goals
              have Hrel2 := hide hrel2
              have Hp := hide hp
              have Hq := hide hq
              clear hrel2 hp hq hfx hx
              go_wp2_with fail
              refine (Has_ct _ _ _ _ _ _ hk).mono ?_
              rintro e w1 ⟨rfl, rfl⟩
              rw [Hp.out]
            · go_wp2_with fail
              refine (Has_ct _ _ _ _ _ _ hk).mono ?_
              rintro e w1 ⟨rfl, rfl⟩
              rw [Hq.out]
              go_wp2
              go_round
              case rel => exact ⟨kk + 1, x, m + 1, hbb, by omega, by go_num, rfl, by go_num, rfl, by omega, by omega, Hrel2.out.trans (uscan_open Hp.out Hq.out)⟩
              case measure => simp [intOf]; omega
            · go_wp2_with fail
              refine (Has_ct _ _ _ _ _ _ hk).mono ?_
              rintro e w1 ⟨rfl, rfl⟩
              rw [Hq.out]
              go_wp2
              go_round
              case rel => exact ⟨kk + 1, f, m, hbb, by omega, by go_num, rfl, rfl, rfl, by omega, by omega, Hrel2.out.trans (uscan_neg Hp.out Hq.out)⟩
              case measure => simp [intOf]; omega
            · go_wp2
              go_round
              case rel => exact ⟨kk + 1, f, m, true, by omega, by go_num, rfl, rfl, rfl, by omega, by omega, Hrel2.out.trans (uscan_hit Hp.out)⟩
              case measure => simp [intOf]; omega
            · go_wp2
              go_round
              case rel => exact ⟨kk + 1, f, m, true, by omega, by go_num, rfl, rfl, rfl, by omega, by omega, Hrel2.out.trans (uscan_hit Hp.out)⟩
              case measure => simp [intOf]; omega
          · have hscan : uscan known l (0, 0, false) = (f, m, hbb) := by
              rw [hrel2, List.drop_of_length_le (by rw [Hl1.out]; omega), uscan]
            have Hscan := hide hscan
            clear hscan hrel2
            cases hbb with
            | true =>
              have hst : urun known cs.reverse = urun known (cs.take k).reverse := by
                rw [Hrel.out, urun, ustep, Hscan.out]
                simp
              have Hst := hide hst
              clear hst
              go_wp2
              go_round
              case rel => exact ⟨k, (k : Int) - 1, by omega, rfl, rfl, Hst.out⟩
              case measure => simp [intOf]
            | false =>
              by_cases hm0 : m = 0
              · subst hm0
                have hst : r = none := by
                  have := Hu.out
                  rw [units, Hrel.out, urun, ustep, Hscan.out] at this
                  simpa using this.symm
                have Hst := hide hst
                clear hst
                go_wp2
                go_ret2
                exact ⟨Below.refl _ _, .inl ⟨Hst.out, rfl⟩⟩
              · by_cases hm1 : m = 1
                · subst hm1
                  have hst : units cs fuel (known ++ [f]) = some r := by
                    have := Hu.out
                    rw [units, Hrel.out, urun, ustep, Hscan.out] at this
                    simpa using this
                  have Hst := hide hst
                  clear hst hm0
                  go_wp2_with fail
                  refine (Copy_ct B n' c' known w hk (by omega)).mono ?_
                  rintro e w1 ⟨hb1, K, kc, rfl, hown1⟩
                  have Hb1 := hide hb1
                  have Hown1 := hide hown1
                  have hkl := hk.len
                  have hkr : ∀ z ∈ known ++ [f], -9223372036854775808 ≤ z ∧ z ≤ 9223372036854775807 := by
                    intro z hz
                    rcases List.mem_append.1 hz with hz | hz
                    · obtain ⟨j, hj, e⟩ := List.getElem_of_mem hz
                      obtain ⟨_, _, y, _, hy, h1, h2, _⟩ := hk.int (show j < n' by omega)
                      rw [List.getElem?_eq_getElem hj, e] at hy
                      obtain rfl := Option.some.inj hy
                      exact ⟨h1, h2⟩
                    · simp at hz
                      omega
                  have Hkr := hide hkr
                  have Hkl := hide hkl
                  clear hb1 hown1 hkr hkl
                  have hkb : known.length + 1 ≤ 100001 := by have := Hkl.out; omega
                  go_wp2_with
                    (at_builtin
                     refine wpList_push rfl _ _ 22 rfl w.heap.size 3 i0 (.int .i64 0) 1 8 Try.underlying22 hi0 hz0 hz1 hz2 rfl (by decide) _ _ _ rfl Hown1.out [.int .i64 f] rfl (by intro u hu; simp at hu; subst hu; rfl) rfl (by omega) (by omega) Hb1.out.size ?_
                     intro O2 oc2 w2 hown2 hb2)
                  have hk2 : Rd Enc.int w2 O2 (known.length + 1) oc2 (known ++ [f]) := own_rd (by simpa using hown2) (by simp) Hkr.out
                  have Hb2 := hide (Hb1.out.trans hb2)
                  have Hk2 := hide hk2
                  clear hown2 hb2 hk2
                  refine (Ih.out O2 (known.length + 1) oc2 (known ++ [f]) r w2 (h.keep Hb2.out) Hk2.out (by rw [Hkl.out]; omega) Hst.out).mono ?_
                  rintro e w3 ⟨hb3, hres⟩
                  have Hb3 := hide (Hb2.out.trans (hb3.mono Hb2.out.size))
                  clear hb3
                  rcases hres with ⟨hr, rfl⟩ | ⟨l', A3, n3, c3, hr, rfl, hrd⟩
                  · have Hr := hide hr
                    clear hr
                    go_wp2
                    go_ret2
                    exact ⟨Hb3.out, .inl ⟨Hr.out, rfl⟩⟩
                  · have Hr := hide hr
                    have Hrd := hide hrd
                    clear hr hrd
                    go_wp2
                    go_ret2
                    exact ⟨Hb3.out, .inr ⟨l', A3, n3, c3, Hr.out, rfl, Hrd.out⟩⟩
                · have hm2 : 1 < m := by omega
                  have hst : urun known cs.reverse = urun known (cs.take k).reverse := by
                    rw [Hrel.out, urun, ustep, Hscan.out]
                    simp [hm0, hm1]
                  have Hst := hide hst
                  have hm0' : ((m : Int) == 0) = false := by rw [beq_eq_false_iff_ne]; omega
                  have hm1' : ((m : Int) == 1) = false := by rw [beq_eq_false_iff_ne]; omega
                  clear hst hm0 hm1
                  go_wp2
                  go_round
                  case rel => exact ⟨k, (k : Int) - 1, by omega, rfl, rfl, Hst.out⟩
                  case measure => simp [intOf]
end Go.Proofs.Ytnfeknfakkdbhaa
