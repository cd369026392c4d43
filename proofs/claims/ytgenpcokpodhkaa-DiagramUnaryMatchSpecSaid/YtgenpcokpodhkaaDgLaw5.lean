/- The walk of the law on Of. -/
import Derived.Test.YtgenpcokpodhkaaDgLaw1
import Derived.Test.YtgenpcokpodhkaaDgPure10
namespace Go.Proofs.Ytgenpcokpodhkaa
set_option linter.unusedVariables false
set_option linter.unusedSimpArgs false
open Go.RowKit Go.Maps

theorem own_rdB {w : World} {base : Nat} {t : TypeId} {A : Option Addr} {n c : Nat} {l : List Bool} (h : w.ownsRow base t 1 (.slice A n c) n (l.map Value.bool)) (hl : l.length = n) : Rd Enc.bool w A n c l := by
  rcases h.2 with ⟨e, rfl⟩ | ⟨g, cap, cur, e, hb, hg, hnc, hcm, hcs, htake⟩
  · injection e with e1 e2 e3
    subst e1 e3
    obtain rfl : l = [] := List.eq_nil_of_length_eq_zero hl
    exact Rd.nil_ _ _
  · injection e with e1 e2 e3
    subst e1 e3
    refine ⟨hl, hnc, by unfold maxLen at hcm; omega, fun h => (by cases h), fun _ => ⟨g, 0, rfl, fun j x hj => ⟨[.bool x], rfl, fun i v hi => ?_⟩⟩⟩
    cases i with
    | succ i => simp at hi
    | zero =>
      simp at hi
      subst hi
      have := h.cells (g := g) rfl j (.bool x) (by rw [List.getElem?_map, hj]; rfl)
      rw [add_plain] at this
      simpa [Enc.bool] using this

set_option maxHeartbeats 3200000 in
set_option maxRecDepth 100000 in
theorem OfLaw_ct (L : Int) (A : Option Addr) (n c : Nat) (cs : List (List Int)) (w : World) (hL : -9223372036854775808 ≤ L ∧ L ≤ 9223372036854775807) (h : Rd (Enc.sl Enc.int) w A n c cs) :
    Calls Try.prog 3 #[.int .i64 L, .slice A n c] w (Gives w (.bool true)) := by
  have hl := h.len
  have Hrd := hide h
  have hcf := fun W => ClausesFault_ct L A n c cs W hL
  have hcd := fun W => Of_d L A n c cs W hL
  have hbad := @ofR_bad L cs
  have hcode := @ofFault_code L cs
  have hgood := @ofFault_good L cs
  generalize hq : ofFault L cs = q at hcf hbad hcode hgood
  obtain ⟨q0, q1⟩ := q
  have Hcf := hide hcf
  have Hcd := hide hcd
  have Hq := hide hq
  have Hbl := hide (Below.refl w.heap.size w)
  have Hbad := hide hbad
  have Hcode := hide hcode
  have Hgood := hide hgood
  clear h hcf hcd hq hbad hcode hgood
  go_enter Try.func3, Try.ntmps3
  go_wp2_with fail
  refine (example_ct _).mono ?_
  rintro e w1 ⟨rfl, hb⟩
  replace Hbl := hide (Hbl.out.trans (hb.mono Hbl.out.size))
  clear hb
  go_wp2_with fail
  refine (Hcf.out w1 (Hrd.out.keep Hbl.out)).mono ?_
  rintro e w2 ⟨rfl, hb⟩
  simp only [faultV]
  replace Hbl := hide (Hbl.out.trans (hb.mono Hbl.out.size))
  clear hb
  go_upto_region 4 with (fail)
  have hx := Blk.new w2 25 [.int .i64 q0, .int .i64 q1]
  obtain ⟨W2, hW⟩ : ∃ W, W = w2.alloc (.cells #[.int .i64 q0, .int .i64 q1] 25) := ⟨_, rfl⟩
  rw [← hW] at hx ⊢
  have hbW : Below w2.heap.size w2 W2 := by rw [hW]; exact (Below.refl _ _).alloc (Nat.le_refl _) _
  replace Hbl := hide (Hbl.out.trans (hbW.mono Hbl.out.size))
  have Hx := hide hx
  generalize w2.heap.size = gx at Hx ⊢
  clear hx hW hbW
  have x0 := Hx.out.cell 0
  have x1 := Hx.out.cell 1
  have xl := Hx.out.lt
  simp only [List.getElem?_cons_zero, List.getElem?_cons_succ] at x0 x1
  by_cases hq0 : q0 = 0
  · subst hq0
    have hqq := Hcode.out rfl
    injection hqq with _ hq1
    subst hq1
    obtain ⟨hL0, hL24, _, _⟩ := Hgood.out rfl
    obtain ⟨L', rfl⟩ : ∃ m : Nat, L = (m : Int) := ⟨L.toNat, by omega⟩
    by_cases hm : (10 : Int) < L'
    · have hm2 : decide ((10 : Int) < L') = true := decide_eq_true hm
      have Hmany := hide (many_ct (L' : Int))
      rw [hm2] at Hmany
      clear hm hm2
      go_wp2_with fail
      refine (Hmany.out _).mono ?_
      rintro e w3 ⟨rfl, rfl⟩
      go_wp2_with fail
      go_ret
      exact ⟨rfl, Hbl.out⟩
    · have hm2 : decide ((10 : Int) < L') = false := decide_eq_false hm
      have Hmany := hide (many_ct (L' : Int))
      rw [hm2] at Hmany
      have Hm := hide hm
      have hof : ofR (L' : Int) cs = limF L' (diaF L' (cnfS cs)) := by unfold ofR; rw [if_pos Hq.out]; rfl
      have hmade := made_lim L' (diaF L' (cnfS cs))
      rw [← hof] at hmade
      have hcd := Hcd.out
      generalize ofR (L' : Int) cs = R at hcd hmade
      obtain ⟨⟨d0, dn, dr⟩, f0, f1⟩ := R
      have Hcd2 := hide hcd
      have Hmade := hide hmade
      clear hm hm2 hcd hmade hof Hcd
      go_wp2_with fail
      refine (Hmany.out _).mono ?_
      rintro e w3 ⟨rfl, rfl⟩
      go_wp2_with fail
      refine (Hcd2.out _ (Hrd.out.keep Hbl.out)).mono ?_
      rintro e w3 ⟨⟨O, m, d, rfl, hrd2, _⟩, hb⟩
      simp only [faultV]
      simp only at hrd2
      replace Hbl := hide (Hbl.out.trans (hb.mono Hbl.out.size))
      replace Hx := hide (Hx.out.keep hb)
      have Hrd2 := hide hrd2
      clear hrd2 hb
      clear x0 x1 xl
      go_upto_region 7 with (fail)
      have hy := Blk.new w3 30 [.int .i64 d0, .slice O m d, .int .i64 dr]
      have hz := Blk.new (w3.alloc (.cells #[.int .i64 d0, .slice O m d, .int .i64 dr] 30)) 25 [.int .i64 f0, .int .i64 f1]
      replace hy := hy.alloc (.cells #[.int .i64 f0, .int .i64 f1] 25)
      have hbW := below_two w3 (.cells #[.int .i64 d0, .slice O m d, .int .i64 dr] 30) (.cells #[.int .i64 f0, .int .i64 f1] 25)
      simp only [World.size_alloc] at hz
      obtain ⟨W3, hW⟩ : ∃ W, W = (w3.alloc (.cells #[.int .i64 d0, .slice O m d, .int .i64 dr] 30)).alloc (.cells #[.int .i64 f0, .int .i64 f1] 25) := ⟨_, rfl⟩
      rw [← hW] at hy hz hbW ⊢
      replace Hbl := hide (Hbl.out.trans (hbW.mono Hbl.out.size))
      replace Hx := hide (Hx.out.keep hbW)
      replace Hrd2 := hide (Hrd2.out.keep hbW)
      have Hy := hide hy
      have Hz := hide hz
      clear hW hbW hy hz
      generalize w3.heap.size = gy at Hy Hz ⊢
      have x0 := Hx.out.cell 0
      have x1 := Hx.out.cell 1
      have xl := Hx.out.lt
      have y0 := Hy.out.cell 0
      have y1 := Hy.out.cell 1
      have y2 := Hy.out.cell 2
      have yl := Hy.out.lt
      have z0 := Hz.out.cell 0
      have z1 := Hz.out.cell 1
      have zl := Hz.out.lt
      simp only [List.getElem?_cons_zero, List.getElem?_cons_succ] at x0 x1 y0 y1 y2 z0 z1
      go_wp2_with fail
      refine wp_region_held_drew (S := (fun w' => w'.cell? ⟨gy, 0, none⟩ = some (.int .i64 d0) ∧ w'.cell? ⟨gy, 1, none⟩ = some (.slice O m d) ∧ w'.cell? ⟨gy, 2, none⟩ = some (.int .i64 dr) ∧ w'.cell? ⟨gy + 1, 0, none⟩ = some (.int .i64 f0) ∧ w'.cell? ⟨gy + 1, 1, none⟩ = some (.int .i64 f1))) (by kernel_rfl) ?_ (fun hHeld => ?_)
      · (try dsimp only); go_keep
      refine take1 (i := 0) (v := ?_) (some 33) rfl rfl (by kernel_rfl) (by kernel_rfl) (by kernel_rfl) (fun _ _ _ h => h) (Or.inl ⟨by rfl, ?_⟩) (by assumption) ?_
      rotate_left
      · intro w hSw; (try dsimp only at hSw); first | (go_simp; done) | (go_simp; with_reducible rfl)
      try simp only [Act.put, List.setIfInBounds_toArray, List.set_cons_zero, List.set_cons_succ]
      refine take1 (i := 1) (v := ?_) (some 34) rfl rfl (by kernel_rfl) (by kernel_rfl) (by kernel_rfl) (fun _ _ _ h => h) (Or.inl ⟨by rfl, ?_⟩) (by assumption) ?_
      rotate_left
      · intro w hSw; (try dsimp only at hSw); first | (go_simp; done) | (go_simp; with_reducible rfl)
      try simp only [Act.put, List.setIfInBounds_toArray, List.set_cons_zero, List.set_cons_succ]
      refine take1 (i := 2) (v := ?_) (some 35) rfl rfl (by kernel_rfl) (by kernel_rfl) (by kernel_rfl) (fun _ _ _ h => h) (Or.inl ⟨by rfl, ?_⟩) (by assumption) ?_
      rotate_left
      · intro w hSw; (try dsimp only at hSw); first | (go_simp; done) | (go_simp; with_reducible rfl)
      try simp only [Act.put, List.setIfInBounds_toArray, List.set_cons_zero, List.set_cons_succ]
      refine take1 (i := 3) (v := ?_) (some 36) rfl rfl (by kernel_rfl) (by kernel_rfl) (by kernel_rfl) (fun _ _ _ h => h) (Or.inl ⟨by rfl, ?_⟩) (by assumption) ?_
      rotate_left
      · intro w hSw; (try dsimp only at hSw); first | (go_simp; done) | (go_simp; with_reducible rfl)
      try simp only [Act.put, List.setIfInBounds_toArray, List.set_cons_zero, List.set_cons_succ]
      refine take1 (i := 4) (v := ?_) (some 37) rfl rfl (by kernel_rfl) (by kernel_rfl) (by kernel_rfl) (fun _ _ _ h => h) (Or.inl ⟨by rfl, ?_⟩) (by assumption) ?_
      rotate_left
      · intro w hSw; (try dsimp only at hSw); first | (go_simp; done) | (go_simp; with_reducible rfl)
      try simp only [Act.put, List.setIfInBounds_toArray, List.set_cons_zero, List.set_cons_succ]
      refine wpAnyH_ready (rs := [5]) (by kernel_rfl) (by simp) ?_
      refine AllReadyH.cons rfl (fun K hK => ?_) AllReadyH.nil
      go_simp
      refine (ClausesTruths_ct L' n c A cs _ Hq.out (Hrd.out.keep ((Hbl.out).drew))).mono ?_
      rintro e w4 ⟨hb0, O2, c2, rfl, hown⟩
      have hb : Below W3.heap.size W3 w4 := (Below.refl W3.heap.size W3).drew.trans hb0
      have hlen : (tableF L' (cnfS cs)).length = 2 ^ L' := by simp [tableF]
      have hrdb := own_rdB hown rfl
      have Hrdb := hide hrdb
      have Hlen := hide hlen
      clear hb0 hown hrdb hlen
      clear x0 x1 y0 y1 y2 z0 z1 xl yl zl
      replace Hx := hide (Hx.out.keep hb)
      replace Hy := hide (Hy.out.keep hb)
      replace Hz := hide (Hz.out.keep hb)
      replace Hrd2 := hide (Hrd2.out.keep hb)
      replace Hbl := hide (Hbl.out.trans (hb.mono Hbl.out.size))
      clear hb
      have x0 := Hx.out.cell 0
      have x1 := Hx.out.cell 1
      have xl := Hx.out.lt
      have y0 := Hy.out.cell 0
      have y1 := Hy.out.cell 1
      have y2 := Hy.out.cell 2
      have yl := Hy.out.lt
      have z0 := Hz.out.cell 0
      have z1 := Hz.out.cell 1
      have zl := Hz.out.lt
      simp only [List.getElem?_cons_zero, List.getElem?_cons_succ] at x0 x1 y0 y1 y2 z0 z1
      refine hK.out _ _ ?_ (fun hHeld2 => ?_)
      · (try dsimp only); go_keep
      clear hK K hHeld
      try simp only [Act.put, List.setIfInBounds_toArray, List.set_cons_zero, List.set_cons_succ]
      have hHeld := hHeld2; clear hHeld2
      refine wpAnyH_ready (rs := [6]) (by kernel_rfl) (by simp) ?_
      refine AllReadyH.cons rfl (fun K hK => ?_) AllReadyH.nil
      go_simp
      refine (made_ct d0 O m d dn dr (f0, f1) L' O2 _ c2 _ w4 (by have := Hm.out; omega) Hlen.out Hrd2.out Hrdb.out).mono ?_
      rintro e w5 ⟨rfl, hb⟩
      have hmt : madeB d0 dn dr (f0, f1) L' (canonical L' (tableF L' (cnfS cs))) = true := Hmade.out
      rw [hmt]
      clear hmt
      clear x0 x1 y0 y1 y2 z0 z1 xl yl zl
      replace Hx := hide (Hx.out.keep hb)
      replace Hy := hide (Hy.out.keep hb)
      replace Hz := hide (Hz.out.keep hb)
      replace Hrd2 := hide (Hrd2.out.keep hb)
      replace Hbl := hide (Hbl.out.trans (hb.mono Hbl.out.size))
      clear hb
      have x0 := Hx.out.cell 0
      have x1 := Hx.out.cell 1
      have xl := Hx.out.lt
      have y0 := Hy.out.cell 0
      have y1 := Hy.out.cell 1
      have y2 := Hy.out.cell 2
      have yl := Hy.out.lt
      have z0 := Hz.out.cell 0
      have z1 := Hz.out.cell 1
      have zl := Hz.out.lt
      simp only [List.getElem?_cons_zero, List.getElem?_cons_succ] at x0 x1 y0 y1 y2 z0 z1
      refine hK.out _ _ ?_ (fun hHeld2 => ?_)
      · (try dsimp only); go_keep
      clear hK K hHeld
      try simp only [Act.put, List.setIfInBounds_toArray, List.set_cons_zero, List.set_cons_succ]
      have hHeld := hHeld2; clear hHeld2
      refine take1 (i := 7) (v := ?_) (some 4) rfl rfl (by kernel_rfl) (by kernel_rfl) (by kernel_rfl) (fun _ _ _ h => h) (Or.inl ⟨by rfl, ?_⟩) (by assumption) ?_
      rotate_left
      · intro w hSw; (try dsimp only at hSw); first | (go_simp; done) | (go_simp; with_reducible rfl)
      try simp only [Act.put, List.setIfInBounds_toArray, List.set_cons_zero, List.set_cons_succ]
      refine wpAnyH_done (by kernel_rfl) ?_ _
      go_wp2
      go_ret
      exact ⟨rfl, Hbl.out⟩
  · have hqb : (q0 == 0) = false := by rw [beq_eq_false_iff_ne]; exact hq0
    have hqb2 : (q0 != 0) = true := by rw [bne_iff_ne]; exact hq0
    have hof := Hbad.out hq0
    have hcd := Hcd.out
    rw [hof] at hcd
    have Hcd2 := hide hcd
    clear hcd hof Hcd hq0
    go_wp2_with fail
    refine (Hcd2.out _ (Hrd.out.keep Hbl.out)).mono ?_
    rintro e w3 ⟨⟨O, m, d, rfl, hrd2, _⟩, hb⟩
    simp only [faultV]
    simp only at hrd2
    have hf : failB 0 [] 0 (q0, q1) (q0, q1) = true := fail_same _
    have hcall := fun W => failed_ct 0 O m d [] 0 (q0, q1) (q0, q1) W
    rw [hf] at hcall
    simp only [faultV] at hcall
    replace Hbl := hide (Hbl.out.trans (hb.mono Hbl.out.size))
    replace Hx := hide (Hx.out.keep hb)
    have Hrd2 := hide hrd2
    have Hcall := hide hcall
    clear hrd2 hb hcall hf
    clear x0 x1 xl
    go_upto_region 7 with (fail)
    have hy := Blk.new w3 30 [.int .i64 0, .slice O m d, .int .i64 0]
    have hz := Blk.new (w3.alloc (.cells #[.int .i64 0, .slice O m d, .int .i64 0] 30)) 25 [.int .i64 q0, .int .i64 q1]
    replace hy := hy.alloc (.cells #[.int .i64 q0, .int .i64 q1] 25)
    have hbW := below_two w3 (.cells #[.int .i64 0, .slice O m d, .int .i64 0] 30) (.cells #[.int .i64 q0, .int .i64 q1] 25)
    simp only [World.size_alloc] at hz
    obtain ⟨W3, hW⟩ : ∃ W, W = (w3.alloc (.cells #[.int .i64 0, .slice O m d, .int .i64 0] 30)).alloc (.cells #[.int .i64 q0, .int .i64 q1] 25) := ⟨_, rfl⟩
    rw [← hW] at hy hz hbW ⊢
    replace Hbl := hide (Hbl.out.trans (hbW.mono Hbl.out.size))
    replace Hx := hide (Hx.out.keep hbW)
    replace Hrd2 := hide (Hrd2.out.keep hbW)
    have Hy := hide hy
    have Hz := hide hz
    clear hW hbW hy hz
    generalize w3.heap.size = gy at Hy Hz ⊢
    have x0 := Hx.out.cell 0
    have x1 := Hx.out.cell 1
    have xl := Hx.out.lt
    have y0 := Hy.out.cell 0
    have y1 := Hy.out.cell 1
    have y2 := Hy.out.cell 2
    have yl := Hy.out.lt
    have z0 := Hz.out.cell 0
    have z1 := Hz.out.cell 1
    have zl := Hz.out.lt
    simp only [List.getElem?_cons_zero, List.getElem?_cons_succ] at x0 x1 y0 y1 y2 z0 z1
    go_wp2_with fail
    with_reducible refine (Hcall.out _ Hrd2.out).mono ?_
    rintro e w4 ⟨rfl, hb⟩
    go_wp2
    go_ret
    exact ⟨rfl, Hbl.out.trans (hb.mono Hbl.out.size)⟩
end Go.Proofs.Ytgenpcokpodhkaa
