/- ClausesAreConjunctions: the walk of the law. -/
import Derived.Test.YtmhcbadggmhopaaClLaws
namespace Go.Proofs.Ytmhcbadggmhopaa
open Go.RowKit

theorem holdsR_ok {v : Int} {cs : List (List Int)} {m : List Bool} (h : (holdsR v cs m).2.1 = 0) : (cnfFault v cs).1 = 0 ∧ (m.length : Int) = v ∧ holdsR v cs m = (trueAll cs m, 0, 0) := by
  unfold holdsR at h ⊢
  by_cases h1 : (cnfFault v cs).1 ≠ 0
  · rw [if_pos h1] at h
    exact absurd h h1
  · rw [if_neg h1] at h ⊢
    by_cases h2 : (m.length : Int) ≠ v
    · rw [if_pos h2] at h
      exact absurd h (by decide)
    · rw [if_neg h2] at h ⊢
      exact ⟨by simpa using h1, by simpa using h2, rfl⟩
theorem holdsR_part {v : Int} {cs ds : List (List Int)} {m : List Bool} (h : (holdsR v cs m).2.1 = 0) (hs : ∀ c ∈ ds, c ∈ cs) (hl : ds.length ≤ cs.length) : holdsR v ds m = (trueAll ds m, 0, 0) := by
  obtain ⟨h1, h2, _⟩ := holdsR_ok h
  rw [holdsR, fault_part h1 hs hl, if_neg (by simp), if_neg (by simpa using h2)]

set_option maxHeartbeats 3200000 in
theorem conj_ct (v : Int) (A : Option Addr) (n c : Nat) (cs : List (List Int)) (B : Option Addr) (n' c' : Nat) (m : List Bool) (k : Int) (w : World) (hv1 : -9223372036854775808 ≤ v) (hv2 : v ≤ 9223372036854775807) (hk1 : -9223372036854775808 ≤ k) (hk2 : k ≤ 9223372036854775807)
    (h : Rd (Enc.sl Enc.int) w A n c cs) (hm : Rd Enc.bool w B n' c' m) :
    Calls Try.prog 6 #[.agg #[.int .i64 v, .slice A n c], .slice B n' c', .int .i64 k] w (Gives w (.bool true)) := by
  have hsm := h.low
  have Hl := hide h.len
  have hw1 : Below w.heap.size w (w.alloc (.cells #[.int .i64 v, .slice A n c] 24)) := (Below.refl _ _).alloc (Nat.le_refl _) _
  have Hw1 := hide hw1
  have HB1 := hide (Blk.new w 24 [.int .i64 v, .slice A n c])
  clear hw1
  rcases hr : holdsR v cs m with ⟨hb, ec, ei⟩
  have Hr := hide hr
  clear hr
  go_enter Try.func6, Try.ntmps6
  go_wp2_with fail
  refine (example_ct _).mono ?_
  rintro e w1 ⟨rfl, hb1⟩
  have Hw2 := hide (Hw1.out.trans (hb1.mono Hw1.out.size))
  have HB2 := hide (HB1.out.keep hb1)
  have hz1 := HB2.out.lt
  obtain ⟨hc1, hc2⟩ := HB2.out.cell2
  clear hb1
  go_wp2_with fail
  have hct := Holds_ct v A B n c n' c' cs m w1 hv1 hv2 (h.keep Hw2.out) (hm.keep Hw2.out)
  rw [Hr.out] at hct
  refine hct.mono ?_
  clear hct
  rintro e w2 ⟨rfl, hb2⟩
  unfold holdsV
  have Hw3 := hide (Hw2.out.trans (hb2.mono Hw2.out.size))
  have HB3 := hide (HB2.out.keep hb2)
  have hz2 := HB3.out.lt
  clear hc1 hc2
  obtain ⟨hc1, hc2⟩ := HB3.out.cell2
  clear hb2
  by_cases hec : ec = 0
  · subst hec
    have hok := holdsR_ok (v := v) (cs := cs) (m := m) (by rw [Hr.out])
    have Hok := hide hok
    clear hok
    rcases hin : inB k 0 n with _ | _
    · go_wp2_with fail
      refine (In_ct _ _ _ _).mono ?_
      rintro e w3 ⟨rfl, rfl⟩
      rw [hin]
      go_wp2
      go_ret
      exact ⟨rfl, Hw3.out.alloc Hw3.out.size _⟩
    · obtain ⟨q, rfl⟩ : ∃ q : Nat, k = (q : Int) := ⟨k.toNat, by have := (inB_iff.1 hin).1; omega⟩
      have hqn : q ≤ n := by have := (inB_iff.1 hin).2; omega
      go_wp2_with fail
      refine (In_ct _ _ _ _).mono ?_
      rintro e w3 ⟨rfl, rfl⟩
      rw [hin]
      have HB4 := hide (HB3.out.alloc (.cells #[.int .i64 0, .int .i64 ei] 28))
      have Hw4 := hide (Hw3.out.alloc Hw3.out.size (.cells #[.int .i64 0, .int .i64 ei] 28))
      clear hc1 hc2 HB3 Hw3 hz2 HB2 Hw2 HB1 Hw1 hz1
      go_wp2_with fail
      generalize w2.alloc (.cells #[.int .i64 0, .int .i64 ei] 28) = W at *
      obtain ⟨hc1, hc2⟩ := HB4.out.cell2
      have hz4 := HB4.out.lt
      have hqc : q ≤ c := Nat.le_trans hqn h.cap
      have hA := (h.keep Hw4.out)
      have hM := (hm.keep Hw4.out)
      have hcut : (if c = q then A else A.map (·.add (q * 1))) = (if c = q then A else A.map (·.add q)) := by rw [Nat.mul_one]
      have Hcut := hide hcut
      clear hcut
      go_cut [9, 10] (fun s9 s10 wc => s9 = .bool (trueAll (cs.take q) m) ∧ ∃ g, s10 = .pointer (some ⟨g, 0, none⟩) ∧ Blk 28 wc g [.int .i64 0, .int .i64 0] ∧ Below W.heap.size W wc)
      case first =>
        have hA1 := hA.upto hqn
        have hres := holdsR_part (ds := cs.take q) (by rw [Hr.out]) (fun c hc => List.mem_of_mem_take hc) (by rw [List.length_take]; omega)
        have hct : ∀ W' : World, Below W.heap.size W W' → Calls Try.prog 9 #[.agg #[.int .i64 v, .slice A q c], .slice B n' c'] W' (Gives W' (holdsV (trueAll (cs.take q) m, 0, 0))) := fun W' hW => by
          have := Holds_ct v A B q c n' c' (cs.take q) m W' hv1 hv2 (hA1.keep hW) (hM.keep hW)
          rwa [hres] at this
        have Hct := hide hct
        clear hct hres hA1
        have hz5 : ¬ w.heap.size = W.heap.size := by omega
        have hz6 : ¬ W.heap.size = w.heap.size := by omega
        go_region_held3 (fun w' => w'.cell? ⟨w.heap.size, 0, none⟩ = some (.int .i64 v) ∧ w'.cell? ⟨w.heap.size, 1, none⟩ = some (.slice A n c)) (first | go_keep) (first
          | (go_at_call 9
             refine (Hct.out _ (by exact (Below.refl _ _).drew)).mono ?_
             rintro e wq ⟨rfl, hbq⟩
             unfold holdsV
             obtain ⟨hk1, hk2⟩ := (HB4.out.qt (Qt.refl _).drew |>.keep hbq).cell2
             have hzq : W.heap.size ≤ wq.heap.size := hbq.size)
          | (go_at_call 9
             refine (Hct.out _ (by exact ((Below.refl _ _).drew).alloc (Nat.le_refl _) _)).mono ?_
             rintro e wq ⟨rfl, hbq⟩
             unfold holdsV
             have hBq := (Blk.new W.drew 28 [.int .i64 0, .int .i64 0]).keep hbq
             have hq1 : wq.cell? ⟨W.heap.size, 0, none⟩ = some (.int .i64 0) := hBq.cell 0
             have hq2 : wq.cell? ⟨W.heap.size, 1, none⟩ = some (.int .i64 0) := hBq.cell 1
             have hq3 : wq.frozen? ⟨W.heap.size, 0, none⟩ = false := hBq.frozen 0
             have hq4 : wq.frozen? ⟨W.heap.size, 1, none⟩ = false := hBq.frozen 1
             obtain ⟨hk1, hk2⟩ := (((HB4.out.qt (Qt.refl _).drew).alloc _).keep hbq).cell2
             have hzq : W.heap.size < wq.heap.size := hBq.lt))
        all_goals go_wp2_with fail
        all_goals go_meet
        all_goals first
          | exact ⟨rfl, _, rfl, Blk.new wq _ _, ((Below.refl _ _).drew.trans hbq).alloc hbq.size _⟩
          | exact ⟨rfl, _, rfl, (hBq.set 0 _).set 1 _, below_res2 ((((Below.refl _ _).drew).alloc (Nat.le_refl _) _).trans (hbq.mono (by simp))) (Nat.le_refl _) _ _⟩
      case rest =>
        obtain ⟨rfl, g, rfl, hbg, hbw⟩ := hcut
        have HB5 := hide (HB4.out.keep hbw)
        have Hw5 := hide (Hw4.out.trans (hbw.mono Hw4.out.size))
        have hA := hA.keep hbw
        have hM := hM.keep hbw
        have hzw : w.heap.size < wc.heap.size := by have := hbw.size; omega
        clear hc1 hc2 HB4 Hw4 hz4
        have HB4 := HB5
        obtain ⟨hc1, hc2⟩ := HB4.out.cell2
        have Hbg := hide hbg
        have hzg := hbg.lt
        clear hbg hbw
        obtain ⟨A2, hA2⟩ : ∃ A2, A2 = (if c = q then A else A.map (·.add q)) := ⟨_, rfl⟩
        have hsl : ∀ w, (Instr.sliceAt 22 (.slice A n c) (some (.int .i64 (q : Int))) none none).run Try.prog w = .ok (.slice A2 (n - q) (c - q)) w := fun w => by
          have := run_from (P := Try.prog) 22 Try.t25 Try.underlying22 (by kernel_rfl) A n c q hqn w
          rw [this, hA2]
          simp [Try.t25]
        have HA2 := hide hA2
        clear hA2
        go_wp2_with fail
        go_cut [11, 12] (fun s9 s10 wd => s9 = .bool (trueAll (cs.drop q) m) ∧ ∃ g, s10 = .pointer (some ⟨g, 0, none⟩) ∧ Blk 28 wd g [.int .i64 0, .int .i64 0] ∧ Below wc.heap.size wc wd)
        case first =>
          have hA1 : Rd (Enc.sl Enc.int) wc A2 (n - q) (c - q) (cs.drop q) := by
            rw [HA2.out]
            have := hA.from_ hqn
            simpa [Enc.sl] using this
          have hres := holdsR_part (ds := cs.drop q) (by rw [Hr.out]) (fun c hc => List.mem_of_mem_drop hc) (by rw [List.length_drop]; omega)
          have hct : ∀ W' : World, Below wc.heap.size wc W' → Calls Try.prog 9 #[.agg #[.int .i64 v, .slice A2 (n - q) (c - q)], .slice B n' c'] W' (Gives W' (holdsV (trueAll (cs.drop q) m, 0, 0))) := fun W' hW => by
            have := Holds_ct v A2 B (n - q) (c - q) n' c' (cs.drop q) m W' hv1 hv2 (hA1.keep hW) (hM.keep hW)
            rwa [hres] at this
          have Hct := hide hct
          clear hct hres hA1
          have hz5 : ¬ w.heap.size = wc.heap.size := by omega
          have hz6 : ¬ wc.heap.size = w.heap.size := by omega
          go_region_held3 (fun w' => w'.cell? ⟨w.heap.size, 0, none⟩ = some (.int .i64 v) ∧ w'.cell? ⟨w.heap.size, 1, none⟩ = some (.slice A n c)) (first | go_keep) (first
            | (go_at_call 9
               refine (Hct.out _ (by exact (Below.refl _ _).drew)).mono ?_
               rintro e wq ⟨rfl, hbq⟩
               unfold holdsV
               obtain ⟨hk1, hk2⟩ := (HB4.out.qt (Qt.refl _).drew |>.keep hbq).cell2
               have hzq : wc.heap.size ≤ wq.heap.size := hbq.size)
            | (go_at_call 9
               refine (Hct.out _ (by exact ((Below.refl _ _).drew).alloc (Nat.le_refl _) _)).mono ?_
               rintro e wq ⟨rfl, hbq⟩
               unfold holdsV
               have hBq := (Blk.new wc.drew 28 [.int .i64 0, .int .i64 0]).keep hbq
               have hq1 : wq.cell? ⟨wc.heap.size, 0, none⟩ = some (.int .i64 0) := hBq.cell 0
               have hq2 : wq.cell? ⟨wc.heap.size, 1, none⟩ = some (.int .i64 0) := hBq.cell 1
               have hq3 : wq.frozen? ⟨wc.heap.size, 0, none⟩ = false := hBq.frozen 0
               have hq4 : wq.frozen? ⟨wc.heap.size, 1, none⟩ = false := hBq.frozen 1
               obtain ⟨hk1, hk2⟩ := (((HB4.out.qt (Qt.refl _).drew).alloc _).keep hbq).cell2
               have hzq : wc.heap.size < wq.heap.size := hBq.lt))
          all_goals go_wp2_with fail
          all_goals go_meet
          all_goals first
            | exact ⟨rfl, _, rfl, Blk.new wq _ _, ((Below.refl _ _).drew.trans hbq).alloc hbq.size _⟩
            | exact ⟨rfl, _, rfl, (hBq.set 0 _).set 1 _, below_res2 ((((Below.refl _ _).drew).alloc (Nat.le_refl _) _).trans (hbq.mono (by simp))) (Nat.le_refl _) _ _⟩
        case rest =>
          obtain ⟨rfl, g2, rfl, hbg2, hbw2⟩ := hcut
          have hbg1 := Hbg.out.keep hbw2
          have Hw6 := hide (Hw5.out.trans (hbw2.mono Hw5.out.size))
          obtain ⟨hd1, hd2⟩ := hbg1.cell2
          obtain ⟨hd3, hd4⟩ := hbg2.cell2
          have hh : hb = (trueAll (cs.take q) m && trueAll (cs.drop q) m) := by
            have := Hok.out.2.2
            rw [Hr.out] at this
            injection this with this _
            rw [this, ← trueAll_append, List.take_append_drop]
          have Hh := hide hh
          clear hh
          cases hta : trueAll (cs.take q) m <;> cases htb : trueAll (cs.drop q) m
          all_goals
            have hhb := Hh.out
            rw [hta, htb] at hhb
            simp only [Bool.and_true, Bool.and_false] at hhb
            subst hhb
            clear hta htb
            go_wp2
            go_ret
            exact ⟨rfl, Hw6.out⟩
  · have hne : (ec != 0) = true := by simpa using hec
    go_wp2
    go_ret
    exact ⟨rfl, Hw3.out.alloc Hw3.out.size _⟩
end Go.Proofs.Ytmhcbadggmhopaa
