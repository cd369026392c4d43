/- ClausesPropagateIsSound: the plain law and the walk of the law. -/
import Derived.Test.YtmhcbadggmhopaaClLaws
import Derived.Test.YtmhcbadggmhopaaClLaw4
import Derived.Test.YtmhcbadggmhopaaClPure2
namespace Go.Proofs.Ytmhcbadggmhopaa
open Go.RowKit

/-- an assignment of truth values is a good set -/
theorem good_of_model {v : Int} {cs : List (List Int)} {m : List Bool} (hcl : ∀ c ∈ cs, Clean v c) (h : trueAll cs m = true) : Good cs (fun x => x ≠ 0 ∧ trueLit m x = true) := by
  have hneg : ∀ x : Int, x ≠ 0 → trueLit m (-x) = !trueLit m x := by
    intro x hx
    unfold trueLit
    rw [litVar_neg]
    rcases (show x < 0 ∨ 0 < x by omega) with hs | hs
    · rw [decide_eq_true (show (0 : Int) < -x by omega), decide_eq_false (show ¬ (0 : Int) < x by omega)]
      cases m.getD ((litVar x).toNat - 1) false <;> rfl
    · rw [decide_eq_false (show ¬ (0 : Int) < -x by omega), decide_eq_true (show (0 : Int) < x by omega)]
      cases m.getD ((litVar x).toNat - 1) false <;> rfl
  have hany : ∀ c ∈ cs, ∃ z ∈ c, trueLit m z = true := fun c hc => by
    have := List.all_eq_true.1 h c hc
    simpa using this
  constructor
  · intro c hc x hx hall
    obtain ⟨z, hz, hlz⟩ := hany c hc
    have hz0 := ((hcl c hc).1 z hz).1
    by_cases hzx : z = x
    · exact hzx ▸ ⟨hz0, hlz⟩
    · have := (hall z hz hzx).2
      rw [hneg z hz0, hlz] at this
      cases this
  · intro c hc
    obtain ⟨z, hz, hlz⟩ := hany c hc
    have hz0 := ((hcl c hc).1 z hz).1
    refine ⟨z, hz, fun hn => ?_⟩
    rw [hneg z hz0, hlz] at hn
    cases hn.2

/-- the law, in plain Lean -/
theorem sound_law {v : Nat} {cs : List (List Int)} {a : List Int} {m : List Bool} (hcs : (cnfFault v cs).1 = 0) (ha : clauseCode v none a = 0) (hall : trueAll cs m = true) (hta : ∀ x ∈ a, trueLit m x = true) :
    ∃ l, propR v cs a = some l ∧ ∀ x ∈ l, Fits v x ∧ trueLit m x = true := by
  obtain ⟨s1, s2⟩ := prop_spec hcs ha
  have hg := good_of_model (fun c hc => clean_of_code ((cnfFault_ok.1 hcs).2.2 c hc)) hall
  have hat : ∀ x ∈ a, x ≠ 0 ∧ trueLit m x = true := fun x hx => ⟨(code_fits ha x hx).1, hta x hx⟩
  cases hp : propR v cs a with
  | none => exact absurd hat (s1 hp _ hg)
  | some l =>
    obtain ⟨vals, rfl, ht, hl, hleast⟩ := s2 l hp
    refine ⟨_, rfl, fun x hx => ?_⟩
    have hx' := (litsOf_mem ht x).1 hx
    exact ⟨lit_fits hl hx', (hleast.least _ hg hat x hx').2⟩

set_option maxHeartbeats 3200000 in
theorem sound_ct (v : Int) (A : Option Addr) (n c : Nat) (cs : List (List Int)) (D : Option Addr) (n1 c1 : Nat) (a : List Int) (B : Option Addr) (n' c' : Nat) (m : List Bool) (w : World) (hv1 : -9223372036854775808 ≤ v) (hv2 : v ≤ 9223372036854775807)
    (h : Rd (Enc.sl Enc.int) w A n c cs) (ha : Rd Enc.int w D n1 c1 a) (hm : Rd Enc.bool w B n' c' m) :
    Calls Try.prog 5 #[.agg #[.int .i64 v, .slice A n c], .slice D n1 c1, .slice B n' c'] w (Gives w (.bool true)) := by
  have hsm := ha.low
  have Hl := hide ha.len
  have hw1 : Below w.heap.size w (w.alloc (.cells #[.int .i64 v, .slice A n c] 24)) := (Below.refl _ _).alloc (Nat.le_refl _) _
  have Hw1 := hide hw1
  have HB1 := hide (Blk.new w 24 [.int .i64 v, .slice A n c])
  clear hw1
  rcases hr : holdsR v cs m with ⟨hb, ec2, ei2⟩
  rcases hp : propF v cs a with ⟨l, ok, ec, ei⟩
  have Hr := hide hr
  have Hp := hide hp
  clear hr hp
  go_enter Try.func5, Try.ntmps5
  go_wp2_with fail
  refine (example_ct _).mono ?_
  rintro e w1 ⟨rfl, hb1⟩
  have Hw2 := hide (Hw1.out.trans (hb1.mono Hw1.out.size))
  have HB2 := hide (HB1.out.keep hb1)
  have hz1 := HB2.out.lt
  obtain ⟨hc1, hc2⟩ := HB2.out.cell2
  clear hb1 HB1 Hw1
  go_wp2_with fail
  have hct := Propagate_ct v A D n c n1 c1 cs a w1 hv1 hv2 (h.keep Hw2.out) (ha.keep Hw2.out)
  rw [Hp.out] at hct
  refine hct.mono ?_
  clear hct
  rintro e w2 ⟨hb2, L, ln, lc, rfl, hrl⟩
  have HF2 := hide (Blk.new w2 28 [.int .i64 ec, .int .i64 ei])
  have hal : Below w2.heap.size w2 (w2.alloc (.cells #[.int .i64 ec, .int .i64 ei] 28)) := (Below.refl _ _).alloc (Nat.le_refl _) _
  have Hw3 := hide ((Hw2.out.trans (hb2.mono Hw2.out.size)).trans (hal.mono (Nat.le_trans Hw2.out.size hb2.size)))
  have HB3 := hide ((HB2.out.keep hb2).keep hal)
  have Hrl := hide (hrl.keep hal)
  have hz2 : w.heap.size < w2.heap.size := (HB2.out.keep hb2).lt
  obtain ⟨hc3, hc4⟩ := (HB2.out.keep hb2).cell2
  clear hb2 HB2 Hw2 hal hrl hz1 hc1 hc2
  go_wp2_with fail
  have hct := Holds_ct v A B n c n' c' cs m _ hv1 hv2 (h.keep Hw3.out) (hm.keep Hw3.out)
  rw [Hr.out] at hct
  refine hct.mono ?_
  clear hct hc3 hc4
  rintro e w3 ⟨rfl, hb3⟩
  unfold holdsV
  have Hw4 := hide (Hw3.out.trans (hb3.mono Hw3.out.size))
  have HB4 := hide (HB3.out.keep hb3)
  have HF3 := hide (HF2.out.keep hb3)
  have Hrl3 := hide (Hrl.out.keep hb3)
  obtain ⟨hd1, hd2⟩ := HF3.out.cell2
  have hz3 : w2.heap.size < w3.heap.size := HF3.out.lt
  clear hb3 HB3 HF2 Hw3 Hrl
  by_cases hec : ec = 0
  · by_cases hec2 : ec2 = 0
    · cases hb with
      | false =>
        subst hec hec2
        go_wp2
        go_ret
        exact ⟨rfl, Hw4.out.alloc Hw4.out.size _⟩
      | true =>
        subst hec hec2
        have hok := holdsR_ok (v := v) (cs := cs) (m := m) (by rw [Hr.out])
        obtain ⟨q, hvq, hcf, hcode, hpf⟩ := propF_ok (v := v) (cs := cs) (a := a) (by rw [Hp.out])
        subst hvq
        have hall : trueAll cs m = true := by
          have := hok.2.2
          rw [Hr.out] at this
          injection this with this _
          exact this.symm
        have hml : m.length = q := by have := hok.2.1; omega
        have hq80 : q ≤ 80 := by have := (cnfFault_ok.1 hcf).1; omega
        have hn' : n' = q := by rw [← hm.len]; exact hml
        subst hn'
        have hfa := code_fits hcode
        have hpr : l = (propR n' cs a).getD [] ∧ ok = (propR n' cs a).isSome := by
          rw [Hp.out] at hpf
          injection hpf with e1 e2
          injection e2 with e2 e3
          exact ⟨e1, e2⟩
        have Hlaw := hide (fun hta => sound_law (m := m) hcf hcode hall hta)
        have Hpr := hide hpr
        have Hfa := hide hfa
        clear hok hcf hcode hpf hall hml hfa hpr Hr Hp
        have HwW := hide (Hw4.out.alloc Hw4.out.size (.cells #[.int .i64 0, .int .i64 ei2] 28))
        have HlW := hide (Hrl3.out.keep ((Below.refl _ _).alloc (Nat.le_refl _) (.cells #[.int .i64 0, .int .i64 ei2] 28)))
        clear Hw4 Hrl3
        go_wp2_with fail
        generalize w3.alloc (.cells #[.int .i64 0, .int .i64 ei2] 28) = W at *
        clear HF3 HB4 hd1 hd2
        go_loopw [12] (fun i wr => ∃ k : Nat, k ≤ n1 ∧ i = .int .i64 k ∧ Qt W wr ∧ ∀ x ∈ a.take k, trueLit m x = true) (fun i _ => n1 - (intOf i).toNat)
        case atStart => exact ⟨0, by omega, rfl, Qt.refl _, by simp⟩
        case round =>
          obtain ⟨k, hk, rfl, hq, hrel⟩ := hrel
          have Hrel := hide hrel
          have Hbr := hide (HwW.out.trans (hq.below _))
          have Hq := hide hq
          clear hrel hq
          by_cases hlt : k < n1
          · obtain ⟨b, off, x, rfl, hx, hxl, hxh, hcx⟩ := (ha.keep Hbr.out).int hlt
            have hfx := Hfa.out x (List.mem_of_getElem? hx)
            have Hx := hide hx
            clear hx
            by_cases hpos : 0 < x
            · obtain ⟨p, hp⟩ : ∃ p : Nat, x = (p : Int) + 1 := ⟨(x - 1).toNat, by omega⟩
              obtain ⟨bm, om, y, rfl, hy, hcy⟩ := (hm.keep Hbr.out).bool (show p < n' by unfold Fits at hfx; omega)
              have Hy := hide (trueLit_pos hp hy)
              have hx1 : x - 1 < (n' : Int) := by unfold Fits at hfx; omega
              have hx2 : 1 ≤ x := by omega
              have hx3 : ¬ x < -x := by omega
              rw [show p = x.toNat - 1 from by omega] at hcy
              clear hfx hy hp
              cases y with
              | true =>
                go_wp2
                go_quiet (fail)
                go_wp2
                go_roundw
                case rel =>
                  refine ⟨k + 1, by omega, by go_num, Hq.out.drewN _, fun z hz => ?_⟩
                  rw [List.take_add_one, Hx.out] at hz
                  rcases List.mem_append.1 hz with hz | hz
                  · exact Hrel.out z hz
                  · obtain rfl : z = x := by simpa using hz
                    exact Hy.out
                case measure => simp [intOf]; omega
              | false =>
                go_wp2
                go_quiet (fail)
                go_wp2
                go_ret
                exact ⟨rfl, below_drewN Hbr.out _⟩
            · obtain ⟨p, hp⟩ : ∃ p : Nat, x = -((p : Int) + 1) := ⟨(-x - 1).toNat, by unfold Fits at hfx; omega⟩
              obtain ⟨bm, om, y, rfl, hy, hcy⟩ := (hm.keep Hbr.out).bool (show p < n' by unfold Fits at hfx; omega)
              have Hy := hide (trueLit_neg hp hy)
              have hx1 : -x - 1 < (n' : Int) := by unfold Fits at hfx; omega
              have hx2 : 1 ≤ -x := by omega
              have hx3 : x < -x := by omega
              have hx4 : 0 ≤ -x := by omega
              have hx5 : -9223372036854775808 < x := by unfold Fits at hfx; omega
              have hd : decide (0 < x) = false := decide_eq_false (by omega)
              rw [show p = (-x).toNat - 1 from by omega] at hcy
              clear hfx hy hp
              cases y with
              | false =>
                go_wp2
                go_quiet (fail)
                go_wp2
                go_roundw
                case rel =>
                  refine ⟨k + 1, by omega, by go_num, Hq.out.drewN _, fun z hz => ?_⟩
                  rw [List.take_add_one, Hx.out] at hz
                  rcases List.mem_append.1 hz with hz | hz
                  · exact Hrel.out z hz
                  · obtain rfl : z = x := by simpa using hz
                    exact Hy.out
                case measure => simp [intOf]; omega
              | true =>
                go_wp2
                go_quiet (fail)
                go_wp2
                go_ret
                exact ⟨rfl, below_drewN Hbr.out _⟩
          · have hta : ∀ x ∈ a, trueLit m x = true := by
              have := Hrel.out
              rwa [List.take_of_length_le (by rw [Hl.out]; omega)] at this
            obtain ⟨l', hl', hall⟩ := Hlaw.out hta
            have hll := Hpr.out
            rw [hl'] at hll
            obtain ⟨hl1, hok1⟩ := hll
            obtain rfl : l = l' := by simpa using hl1
            obtain rfl : ok = true := by simpa using hok1
            clear hl1 hok1
            have Hall := hide hall
            clear hall hta hl'
            go_wp2_with fail
            obtain ⟨wo, hwo⟩ : ∃ wo : World, wo = wr := ⟨_, rfl⟩
            have Hwo := hide hwo
            have hsl := HlW.out.low
            have Hll := hide HlW.out.len
            clear hwo
            go_loopw [13] (fun i wq => ∃ k : Nat, k ≤ ln ∧ i = .int .i64 k ∧ Qt W wq) (fun i _ => ln - (intOf i).toNat)
            case atStart => exact ⟨0, by omega, rfl, Hq.out⟩
            case round =>
              obtain ⟨k2, hk2, rfl, hq2⟩ := hrel
              have Hbr2 := hide (HwW.out.trans (hq2.below _))
              have Hq2 := hide hq2
              clear hq2
              by_cases hlt2 : k2 < ln
              · obtain ⟨b, off, x, rfl, hx, hxl, hxh, hcx⟩ := (HlW.out.qt Hq2.out).int hlt2
                obtain ⟨hfx, htx⟩ := Hall.out x (List.mem_of_getElem? hx)
                clear hx
                by_cases hpos : 0 < x
                · obtain ⟨p, hp⟩ : ∃ p : Nat, x = (p : Int) + 1 := ⟨(x - 1).toNat, by omega⟩
                  obtain ⟨bm, om, y, rfl, hy, hcy⟩ := (hm.keep Hbr2.out).bool (show p < n' by unfold Fits at hfx; omega)
                  have hyt : y = true := (trueLit_pos hp hy).symm.trans htx
                  subst hyt
                  have hx0 : x ≤ (n' : Int) := by unfold Fits at hfx; omega
                  have hx6 : 0 ≤ x - 1 := by omega
                  have hx7 : IntKind.i64.wrap (x - 1) = x - 1 := IntWalk.i64_in _ (by omega)
                  have hx1 : x - 1 < (n' : Int) := by unfold Fits at hfx; omega
                  have hx2 : 1 ≤ x := by omega
                  have hx3 : ¬ x < -x := by omega
                  rw [show p = x.toNat - 1 from by omega] at hcy
                  clear hfx hy hp htx
                  go_wp2
                  go_quiet (fail)
                  go_wp2
                  go_quiet (fail)
                  clear hx7
                  go_wp2
                  go_roundw
                  case rel => exact ⟨k2 + 1, by omega, by go_num, (Hq2.out.drewN _)⟩
                  case measure => simp [intOf]; omega
                · obtain ⟨p, hp⟩ : ∃ p : Nat, x = -((p : Int) + 1) := ⟨(-x - 1).toNat, by unfold Fits at hfx; omega⟩
                  obtain ⟨bm, om, y, rfl, hy, hcy⟩ := (hm.keep Hbr2.out).bool (show p < n' by unfold Fits at hfx; omega)
                  have hyt : y = false := by
                    have := (trueLit_neg hp hy).symm.trans htx
                    simpa using this
                  subst hyt
                  have hx0 : -x ≤ (n' : Int) := by unfold Fits at hfx; omega
                  have hx6 : 0 ≤ -x - 1 := by omega
                  have hx7 : IntKind.i64.wrap (-x - 1) = -x - 1 := IntWalk.i64_in _ (by omega)
                  have hx1 : -x - 1 < (n' : Int) := by unfold Fits at hfx; omega
                  have hx2 : 1 ≤ -x := by omega
                  have hx3 : x < -x := by omega
                  have hx4 : 0 ≤ -x := by omega
                  have hx5 : -9223372036854775808 < x := by unfold Fits at hfx; omega
                  have hd : decide (0 < x) = false := decide_eq_false (by omega)
                  rw [show p = (-x).toNat - 1 from by omega] at hcy
                  clear hfx hy hp htx
                  go_wp2
                  go_quiet (fail)
                  go_wp2
                  go_quiet (fail)
                  clear hx7
                  go_wp2
                  go_roundw
                  case rel => exact ⟨k2 + 1, by omega, by go_num, (Hq2.out.drewN _)⟩
                  case measure => simp [intOf]; omega
              · go_wp2
                go_ret
                exact ⟨rfl, Hbr2.out⟩
    · have hne : (ec2 != 0) = true := by simpa using hec2
      subst hec
      go_wp2
      go_ret
      exact ⟨rfl, Hw4.out.alloc Hw4.out.size _⟩
  · have hne : (ec != 0) = true := by simpa using hec
    go_wp2
    go_ret
    exact ⟨rfl, Hw4.out.alloc Hw4.out.size _⟩
end Go.Proofs.Ytmhcbadggmhopaa
