/- The walks of the laws on solving and refuting. -/
import Derived.Test.YtnfeknfakkdbhaaRs17
namespace Go.Proofs.Ytnfeknfakkdbhaa
set_option linter.unusedVariables false
set_option linter.unusedSimpArgs false
open Go.RowKit

theorem checkR_ok {v : Int} {cs L : List (List Int)} (h : (checkR v cs L).2.1 = 0) : (cnfFault v cs).1 = 0 ∧ (∀ c ∈ L, clauseCode v none c = 0) ∧ L.length ≤ 4000 ∧ checkR v cs L = (checkB v.toNat cs L, 0, 0) := by
  unfold checkR at h ⊢
  by_cases h1 : (cnfFault v cs).1 ≠ 0
  · rw [if_pos h1] at h
    exact absurd h h1
  · rw [if_neg h1] at h ⊢
    by_cases h2 : 4000 < L.length
    · rw [if_pos h2] at h
      exact absurd h (by decide)
    · rw [if_neg h2] at h ⊢
      by_cases h3 : (faultFrom v 0 L).1 ≠ 0
      · rw [if_pos h3] at h
        exact absurd h h3
      · rw [if_neg h3] at h ⊢
        exact ⟨by simpa using h1, faultFrom_ok.1 (by simpa using h3), by omega, rfl⟩
theorem holdsR_ok {v : Int} {cs : List (List Int)} {m : List Bool} (h : (holdsR v cs m).2.1 = 0) : (cnfFault v cs).1 = 0 ∧ (m.length : Int) = v ∧ holdsR v cs m = (trueAll cs m, 0, 0) := by
  unfold holdsR at h ⊢
  by_cases h1 : (cnfFault v cs).1 ≠ 0
  · rw [if_pos h1] at h
    exact absurd h h1
  · rw [if_neg h1] at h ⊢
    by_cases h2 : (m.length : Int) ≠ v
    · rw [if_pos h2] at h
      exact absurd h (by decide)
    · rw [if_neg h2] at h ⊢
      exact ⟨by simpa using h1, by simpa using h2, rfl⟩
theorem fault_clean {v : Int} {cs : List (List Int)} (h : (cnfFault v cs).1 = 0) : 0 ≤ v ∧ v ≤ 80 ∧ cs.length ≤ 1500 ∧ ∀ c ∈ cs, Clean v.toNat c := by
  obtain ⟨⟨h1, h2⟩, h3, h4⟩ := cnfFault_ok.1 h
  refine ⟨h1, h2, h3, fun c hc => ?_⟩
  have := clean_of_code (h4 c hc)
  rwa [Int.toNat_of_nonneg h1]

theorem code_of_clean {v : Int} : ∀ {c : List Int} {p : Option Int}, Clean v c → (∀ y, p = some y → ∀ x ∈ c, litVar y < litVar x) → clauseCode v p c = 0 := by
  intro c
  induction c with
  | nil => intro p _ _; exact clauseCode_nil v p
  | cons x c ih =>
    intro p h hp
    have hx := h.1 x (List.mem_cons_self ..)
    obtain ⟨h1, h2⟩ := List.pairwise_cons.1 h.2
    have hnb : ¬ (x = 0 ∨ x < -v ∨ v < x) := by unfold Fits at hx; omega
    have hrec := ih (p := some x) ⟨fun y hy => h.1 y (List.mem_cons_of_mem _ hy), h2⟩ (fun y e z hz => by injection e with e; subst e; exact h1 z hz)
    cases p with
    | none => rw [clauseCode_first c hnb]; exact hrec
    | some y =>
      have := hp y rfl x (List.mem_cons_self ..)
      rw [clauseCode_next c hnb (by omega)]
      exact hrec
theorem check_yes {v : Int} {cs L : List (List Int)} (h0 : (cnfFault v cs).1 = 0) (h1 : ∀ C ∈ L, Clean v.toNat C) (h2 : checkB v.toNat cs L = true) (h3 : L.length ≤ 4000) : checkR v cs L = (true, 0, 0) := by
  obtain ⟨f1, _⟩ := fault_clean h0
  have h4 : (faultFrom v 0 L).1 = 0 := faultFrom_ok.2 (fun c hc => code_of_clean (by have := h1 c hc; rwa [Int.toNat_of_nonneg f1] at this) (fun y e => by cases e))
  unfold checkR
  rw [if_neg (by simpa using h0), if_neg (by omega), if_neg (by simpa using h4), h2]
theorem holds_yes {v : Int} {cs : List (List Int)} {m : List Bool} (h0 : (cnfFault v cs).1 = 0) (h1 : m.length = v.toNat) (h2 : trueAll cs m = true) : holdsR v cs m = (true, 0, 0) := by
  obtain ⟨f1, _⟩ := fault_clean h0
  unfold holdsR
  rw [if_neg (by simpa using h0), if_neg (by omega), h2]

set_option maxRecDepth 100000 in
set_option maxHeartbeats 6400000 in
theorem refutations_ct (v : Int) (A : Option Addr) (n c : Nat) (cs : List (List Int)) (B : Option Addr) (m d : Nat) (L : List (List Int)) (D : Option Addr) (n2 c2 : Nat) (mo : List Bool) (w : World) (hv1 : -9223372036854775808 ≤ v) (hv2 : v ≤ 9223372036854775807) (h : Rd (Enc.sl Enc.int) w A n c cs) (hA : ∀ ad, A = some ad → ∃ b off, ad = ⟨b, off, none⟩) (hl : Rd (Enc.sl Enc.int) w B m d L) (hm : Rd Enc.bool w D n2 c2 mo) :
    Calls Try.prog 10 #[.agg #[.int .i64 v, .slice A n c], .slice B m d, .slice D n2 c2] w (Gives w (.bool true)) := by
  rcases hr : checkR v cs L with ⟨kb, kc, ki⟩
  rcases hr2 : holdsR v cs mo with ⟨hb', hc', hi'⟩
  have hfin : kc = 0 → hc' = 0 → kb = true → hb' = true → False := by
    intro e1 e2 e3 e4
    have h1 := checkR_ok (v := v) (cs := cs) (L := L) (by rw [hr]; exact e1)
    have h2 := holdsR_ok (v := v) (cs := cs) (m := mo) (by rw [hr2]; exact e2)
    obtain ⟨f1, f2, f3, f4⟩ := fault_clean h1.1
    rw [hr] at h1
    rw [hr2] at h2
    have e5 := h1.2.2.2
    have e6 := h2.2.2
    injection e5 with e5 _
    injection e6 with e6 _
    have := check_no (V := v.toNat) (m := mo) f4 (fun c hc => by have := clean_of_code (h1.2.1 c hc); rwa [Int.toNat_of_nonneg f1]) (by have := h2.2.1; omega) (e5.symm.trans e3)
    rw [← e6, e4] at this
    cases this
  have Hr := hide hr
  have Hr2 := hide hr2
  have Hfin := hide hfin
  have H := hide h
  have HA := hide hA
  have Hl := hide hl
  have Hm := hide hm
  clear hr hr2 hfin h hA hl hm
  have Hbl := hide (Below.refl w.heap.size w)
  go_enter Try.func10, Try.ntmps10
  go_wp2_with fail
  have hyb := Blk.new (w) 51 [.int .i64 v, .slice A n c]
  have hbW : Below (w).heap.size (w) ((w).alloc (.cells #[.int .i64 v, .slice A n c] 51)) := (Below.refl _ _).alloc (Nat.le_refl _) _
  obtain ⟨w0, hW⟩ : ∃ W, W = (w).alloc (.cells #[.int .i64 v, .slice A n c] 51) := ⟨_, rfl⟩
  rw [← hW] at hyb hbW ⊢
  replace Hbl := hide (Hbl.out.trans (hbW.mono Hbl.out.size))
  have Hb := hide hyb
  clear hW hbW hyb
  generalize w.heap.size = gb at Hb ⊢
  have b0 := Hb.out.cell 0
  have b1 := Hb.out.cell 1
  have bl := Hb.out.lt
  simp only [List.getElem?_cons_zero, List.getElem?_cons_succ] at b0 b1
  with_reducible refine (resolveExample_ct _).mono ?_
  rintro e w1 ⟨rfl, hb⟩
  clear b0 b1 bl
  replace Hb := hide (Hb.out.keep hb)
  replace Hbl := hide (Hbl.out.trans (hb.mono Hbl.out.size))
  clear hb
  have b0 := Hb.out.cell 0
  have b1 := Hb.out.cell 1
  have bl := Hb.out.lt
  simp only [List.getElem?_cons_zero, List.getElem?_cons_succ] at b0 b1
  go_wp2_with fail
  have hck := Check_ct v A n c cs B m d L w1 hv1 hv2 (H.out.keep Hbl.out) HA.out (Hl.out.keep Hbl.out)
  rw [Hr.out] at hck
  with_reducible refine (hck).mono ?_
  rintro e w2 ⟨rfl, hb⟩
  clear b0 b1 bl
  replace Hb := hide (Hb.out.keep hb)
  replace Hbl := hide (Hbl.out.trans (hb.mono Hbl.out.size))
  clear hb
  clear hck
  unfold holdsV
  go_upto_region 4 with (fail)
  have hyx := Blk.new (w2) 29 [.int .i64 kc, .int .i64 ki]
  have hbW : Below (w2).heap.size (w2) ((w2).alloc (.cells #[.int .i64 kc, .int .i64 ki] 29)) := (Below.refl _ _).alloc (Nat.le_refl _) _
  obtain ⟨w3, hW⟩ : ∃ W, W = (w2).alloc (.cells #[.int .i64 kc, .int .i64 ki] 29) := ⟨_, rfl⟩
  rw [← hW] at hyx hbW ⊢
  replace Hb := hide (Hb.out.keep hbW)
  replace Hbl := hide (Hbl.out.trans (hbW.mono Hbl.out.size))
  have Hx := hide hyx
  clear hW hbW hyx
  generalize w2.heap.size = gx at Hx ⊢
  have b0 := Hb.out.cell 0
  have b1 := Hb.out.cell 1
  have bl := Hb.out.lt
  have x0 := Hx.out.cell 0
  have x1 := Hx.out.cell 1
  have xl := Hx.out.lt
  simp only [List.getElem?_cons_zero, List.getElem?_cons_succ] at b0 b1 x0 x1
  go_wp2_with fail
  have hck := Holds_ct v A D n c n2 c2 cs mo w3 hv1 hv2 (H.out.keep Hbl.out) (Hm.out.keep Hbl.out)
  rw [Hr2.out] at hck
  with_reducible refine (hck).mono ?_
  rintro e w4 ⟨rfl, hb⟩
  clear b0 b1 x0 x1 bl xl
  replace Hb := hide (Hb.out.keep hb)
  replace Hx := hide (Hx.out.keep hb)
  replace Hbl := hide (Hbl.out.trans (hb.mono Hbl.out.size))
  clear hb
  clear hck
  unfold holdsV
  go_upto_region 5 with (fail)
  have hyy := Blk.new (w4) 29 [.int .i64 hc', .int .i64 hi']
  have hbW : Below (w4).heap.size (w4) ((w4).alloc (.cells #[.int .i64 hc', .int .i64 hi'] 29)) := (Below.refl _ _).alloc (Nat.le_refl _) _
  obtain ⟨w5, hW⟩ : ∃ W, W = (w4).alloc (.cells #[.int .i64 hc', .int .i64 hi'] 29) := ⟨_, rfl⟩
  rw [← hW] at hyy hbW ⊢
  replace Hb := hide (Hb.out.keep hbW)
  replace Hx := hide (Hx.out.keep hbW)
  replace Hbl := hide (Hbl.out.trans (hbW.mono Hbl.out.size))
  have Hy := hide hyy
  clear hW hbW hyy
  generalize w4.heap.size = gy at Hy ⊢
  have b0 := Hb.out.cell 0
  have b1 := Hb.out.cell 1
  have bl := Hb.out.lt
  have x0 := Hx.out.cell 0
  have x1 := Hx.out.cell 1
  have xl := Hx.out.lt
  have y0 := Hy.out.cell 0
  have y1 := Hy.out.cell 1
  have yl := Hy.out.lt
  simp only [List.getElem?_cons_zero, List.getElem?_cons_succ] at b0 b1 x0 x1 y0 y1
  by_cases e1 : kc = 0
  · subst e1
    by_cases e2 : hc' = 0
    · subst e2
      have hf := Hfin.out rfl rfl
      have Hf := hide hf
      clear hf
      cases kb <;> cases hb'
      all_goals first
        | exact (Hf.out rfl rfl).elim
        | (go_wp2; go_ret; exact ⟨rfl, Hbl.out⟩)
    · have hne : (hc' != 0) = true := by simpa using e2
      go_wp2
      go_ret
      exact ⟨rfl, Hbl.out⟩
  · have hne : (kc != 0) = true := by simpa using e1
    go_wp2
    go_ret
    exact ⟨rfl, Hbl.out⟩

set_option maxRecDepth 100000 in
set_option maxHeartbeats 6400000 in
theorem answers_ct (v : Int) (A : Option Addr) (n c : Nat) (cs : List (List Int)) (w : World) (hv1 : -9223372036854775808 ≤ v) (hv2 : v ≤ 9223372036854775807) (h : Rd (Enc.sl Enc.int) w A n c cs) (hA : ∀ ad, A = some ad → ∃ b off, ad = ⟨b, off, none⟩) :
    Calls Try.prog 9 #[.agg #[.int .i64 v, .slice A n c]] w (Gives w (.bool true)) := by
  have H := hide h
  have HA := hide hA
  clear h hA
  have Hbl := hide (Below.refl w.heap.size w)
  go_enter Try.func9, Try.ntmps9
  go_wp2_with fail
  have hyb := Blk.new (w) 51 [.int .i64 v, .slice A n c]
  have hbW : Below (w).heap.size (w) ((w).alloc (.cells #[.int .i64 v, .slice A n c] 51)) := (Below.refl _ _).alloc (Nat.le_refl _) _
  obtain ⟨w0, hW⟩ : ∃ W, W = (w).alloc (.cells #[.int .i64 v, .slice A n c] 51) := ⟨_, rfl⟩
  rw [← hW] at hyb hbW ⊢
  replace Hbl := hide (Hbl.out.trans (hbW.mono Hbl.out.size))
  have Hb := hide hyb
  clear hW hbW hyb
  generalize w.heap.size = gb at Hb ⊢
  have b0 := Hb.out.cell 0
  have b1 := Hb.out.cell 1
  have bl := Hb.out.lt
  simp only [List.getElem?_cons_zero, List.getElem?_cons_succ] at b0 b1
  with_reducible refine (resolveExample_ct _).mono ?_
  rintro e w1 ⟨rfl, hb⟩
  clear b0 b1 bl
  replace Hb := hide (Hb.out.keep hb)
  replace Hbl := hide (Hbl.out.trans (hb.mono Hbl.out.size))
  clear hb
  have b0 := Hb.out.cell 0
  have b1 := Hb.out.cell 1
  have bl := Hb.out.lt
  simp only [List.getElem?_cons_zero, List.getElem?_cons_succ] at b0 b1
  go_wp2_with fail
  with_reducible refine (Solve_ct v A n c cs w1 hv1 hv2 (H.out.keep Hbl.out) HA.out).mono ?_
  rintro e w2 ⟨hb, hs⟩
  clear b0 b1 bl
  replace Hb := hide (Hb.out.keep hb)
  replace Hbl := hide (Hbl.out.trans (hb.mono Hbl.out.size))
  clear hb
  have b0 := Hb.out.cell 0
  have b1 := Hb.out.cell 1
  have bl := Hb.out.lt
  simp only [List.getElem?_cons_zero, List.getElem?_cons_succ] at b0 b1
  rcases hs with ⟨hf, rfl⟩ | ⟨hz, ⟨A2, c2, mo, rfl, hm1, hm2, hm3⟩ | ⟨A2, n2, c2, L, rfl, hr1, hr2, hr3, hr4, hr5⟩ | ⟨rfl, hbig⟩⟩
  · unfold three
    have hne : ((cnfFault v cs).1 != 0) = true := by simpa using hf
    clear hf
    generalize (cnfFault v cs).1 = ec at *
    generalize (cnfFault v cs).2 = ei at *
    go_wp2
    go_ret
    exact ⟨rfl, Hbl.out.alloc Hbl.out.size _⟩
  · unfold three
    have hhold := holds_yes hz hm1 hm2
    obtain ⟨f1, f2, _⟩ := fault_clean hz
    have Hmo := hide hm3
    rcases hr : checkR v cs [] with ⟨kb, kc, ki⟩
    have Hr := hide hr
    have Hh := hide hhold
    clear hz hm1 hm2 hm3 hr hhold
    go_upto_region 4 with (fail)
    have hyx := Blk.new (w2) 29 [.int .i64 0, .int .i64 0]
    have hbW : Below (w2).heap.size (w2) ((w2).alloc (.cells #[.int .i64 0, .int .i64 0] 29)) := (Below.refl _ _).alloc (Nat.le_refl _) _
    obtain ⟨w3, hW⟩ : ∃ W, W = (w2).alloc (.cells #[.int .i64 0, .int .i64 0] 29) := ⟨_, rfl⟩
    rw [← hW] at hyx hbW ⊢
    replace Hb := hide (Hb.out.keep hbW)
    replace Hmo := hide (Hmo.out.keep hbW)
    replace Hbl := hide (Hbl.out.trans (hbW.mono Hbl.out.size))
    have Hx := hide hyx
    clear hW hbW hyx
    generalize w2.heap.size = gx at Hx ⊢
    have b0 := Hb.out.cell 0
    have b1 := Hb.out.cell 1
    have bl := Hb.out.lt
    have x0 := Hx.out.cell 0
    have x1 := Hx.out.cell 1
    have xl := Hx.out.lt
    simp only [List.getElem?_cons_zero, List.getElem?_cons_succ] at b0 b1 x0 x1
    go_wp2_with fail
    have hck := Holds_ct v A A2 n c v.toNat c2 cs mo w3 hv1 hv2 (H.out.keep Hbl.out) Hmo.out
    rw [Hh.out] at hck
    with_reducible refine (hck).mono ?_
    rintro e w4 ⟨rfl, hb⟩
    clear b0 b1 x0 x1 bl xl
    replace Hb := hide (Hb.out.keep hb)
    replace Hx := hide (Hx.out.keep hb)
    replace Hmo := hide (Hmo.out.keep hb)
    replace Hbl := hide (Hbl.out.trans (hb.mono Hbl.out.size))
    clear hb
    clear hck
    unfold holdsV
    go_upto_region 7 with (fail)
    have hyy := Blk.new (w4) 29 [.int .i64 0, .int .i64 0]
    have hbW : Below (w4).heap.size (w4) ((w4).alloc (.cells #[.int .i64 0, .int .i64 0] 29)) := (Below.refl _ _).alloc (Nat.le_refl _) _
    obtain ⟨w5, hW⟩ : ∃ W, W = (w4).alloc (.cells #[.int .i64 0, .int .i64 0] 29) := ⟨_, rfl⟩
    rw [← hW] at hyy hbW ⊢
    replace Hb := hide (Hb.out.keep hbW)
    replace Hx := hide (Hx.out.keep hbW)
    replace Hmo := hide (Hmo.out.keep hbW)
    replace Hbl := hide (Hbl.out.trans (hbW.mono Hbl.out.size))
    have Hy := hide hyy
    clear hW hbW hyy
    generalize w4.heap.size = gy at Hy ⊢
    have b0 := Hb.out.cell 0
    have b1 := Hb.out.cell 1
    have bl := Hb.out.lt
    have x0 := Hx.out.cell 0
    have x1 := Hx.out.cell 1
    have xl := Hx.out.lt
    have y0 := Hy.out.cell 0
    have y1 := Hy.out.cell 1
    have yl := Hy.out.lt
    simp only [List.getElem?_cons_zero, List.getElem?_cons_succ] at b0 b1 x0 x1 y0 y1
    go_wp2_with fail
    have hck := Check_ct v A n c cs none 0 0 [] w5 hv1 hv2 (H.out.keep Hbl.out) HA.out (Rd.nil_ _ _)
    rw [Hr.out] at hck
    with_reducible refine (hck).mono ?_
    rintro e w6 ⟨rfl, hb⟩
    clear b0 b1 x0 x1 y0 y1 bl xl yl
    replace Hb := hide (Hb.out.keep hb)
    replace Hx := hide (Hx.out.keep hb)
    replace Hy := hide (Hy.out.keep hb)
    replace Hmo := hide (Hmo.out.keep hb)
    replace Hbl := hide (Hbl.out.trans (hb.mono Hbl.out.size))
    clear hb
    clear hck
    unfold holdsV
    have b0 := Hb.out.cell 0
    have b1 := Hb.out.cell 1
    have bl := Hb.out.lt
    have x0 := Hx.out.cell 0
    have x1 := Hx.out.cell 1
    have xl := Hx.out.lt
    have y0 := Hy.out.cell 0
    have y1 := Hy.out.cell 1
    have yl := Hy.out.lt
    simp only [List.getElem?_cons_zero, List.getElem?_cons_succ] at b0 b1 x0 x1 y0 y1
    go_wp2
    go_ret
    exact ⟨rfl, Hbl.out.alloc Hbl.out.size _⟩
  · unfold three
    have hck0 := check_yes hz hr2 hr3 (by rw [hr1.len]; exact hr5)
    rcases hh : holdsR v cs [] with ⟨kb, kc, ki⟩
    have HL := hide hr1
    have Hr := hide hck0
    have Hh := hide hh
    have hpos : ((n2 : Int) == 0) = false := by rw [beq_eq_false_iff_ne]; omega
    clear hz hr1 hr2 hr3 hh hck0
    go_upto_region 4 with (fail)
    have hyx := Blk.new (w2) 29 [.int .i64 0, .int .i64 0]
    have hbW : Below (w2).heap.size (w2) ((w2).alloc (.cells #[.int .i64 0, .int .i64 0] 29)) := (Below.refl _ _).alloc (Nat.le_refl _) _
    obtain ⟨w3, hW⟩ : ∃ W, W = (w2).alloc (.cells #[.int .i64 0, .int .i64 0] 29) := ⟨_, rfl⟩
    rw [← hW] at hyx hbW ⊢
    replace Hb := hide (Hb.out.keep hbW)
    replace HL := hide (HL.out.keep hbW)
    replace Hbl := hide (Hbl.out.trans (hbW.mono Hbl.out.size))
    have Hx := hide hyx
    clear hW hbW hyx
    generalize w2.heap.size = gx at Hx ⊢
    have b0 := Hb.out.cell 0
    have b1 := Hb.out.cell 1
    have bl := Hb.out.lt
    have x0 := Hx.out.cell 0
    have x1 := Hx.out.cell 1
    have xl := Hx.out.lt
    simp only [List.getElem?_cons_zero, List.getElem?_cons_succ] at b0 b1 x0 x1
    go_wp2_with fail
    have hck := Holds_ct v A none n c 0 0 cs [] w3 hv1 hv2 (H.out.keep Hbl.out) (Rd.nil_ _ _)
    rw [Hh.out] at hck
    with_reducible refine (hck).mono ?_
    rintro e w4 ⟨rfl, hb⟩
    clear b0 b1 x0 x1 bl xl
    replace Hb := hide (Hb.out.keep hb)
    replace Hx := hide (Hx.out.keep hb)
    replace HL := hide (HL.out.keep hb)
    replace Hbl := hide (Hbl.out.trans (hb.mono Hbl.out.size))
    clear hb
    clear hck
    unfold holdsV
    go_upto_region 7 with (fail)
    have hyy := Blk.new (w4) 29 [.int .i64 kc, .int .i64 ki]
    have hbW : Below (w4).heap.size (w4) ((w4).alloc (.cells #[.int .i64 kc, .int .i64 ki] 29)) := (Below.refl _ _).alloc (Nat.le_refl _) _
    obtain ⟨w5, hW⟩ : ∃ W, W = (w4).alloc (.cells #[.int .i64 kc, .int .i64 ki] 29) := ⟨_, rfl⟩
    rw [← hW] at hyy hbW ⊢
    replace Hb := hide (Hb.out.keep hbW)
    replace Hx := hide (Hx.out.keep hbW)
    replace HL := hide (HL.out.keep hbW)
    replace Hbl := hide (Hbl.out.trans (hbW.mono Hbl.out.size))
    have Hy := hide hyy
    clear hW hbW hyy
    generalize w4.heap.size = gy at Hy ⊢
    have b0 := Hb.out.cell 0
    have b1 := Hb.out.cell 1
    have bl := Hb.out.lt
    have x0 := Hx.out.cell 0
    have x1 := Hx.out.cell 1
    have xl := Hx.out.lt
    have y0 := Hy.out.cell 0
    have y1 := Hy.out.cell 1
    have yl := Hy.out.lt
    simp only [List.getElem?_cons_zero, List.getElem?_cons_succ] at b0 b1 x0 x1 y0 y1
    go_wp2_with fail
    have hck := Check_ct v A n c cs A2 n2 c2 L w5 hv1 hv2 (H.out.keep Hbl.out) HA.out HL.out
    rw [Hr.out] at hck
    with_reducible refine (hck).mono ?_
    rintro e w6 ⟨rfl, hb⟩
    clear b0 b1 x0 x1 y0 y1 bl xl yl
    replace Hb := hide (Hb.out.keep hb)
    replace Hx := hide (Hx.out.keep hb)
    replace Hy := hide (Hy.out.keep hb)
    replace HL := hide (HL.out.keep hb)
    replace Hbl := hide (Hbl.out.trans (hb.mono Hbl.out.size))
    clear hb
    clear hck
    unfold holdsV
    have b0 := Hb.out.cell 0
    have b1 := Hb.out.cell 1
    have bl := Hb.out.lt
    have x0 := Hx.out.cell 0
    have x1 := Hx.out.cell 1
    have xl := Hx.out.lt
    have y0 := Hy.out.cell 0
    have y1 := Hy.out.cell 1
    have yl := Hy.out.lt
    simp only [List.getElem?_cons_zero, List.getElem?_cons_succ] at b0 b1 x0 x1 y0 y1
    go_wp2
    go_ret
    exact ⟨rfl, Hbl.out.alloc Hbl.out.size _⟩
  · unfold three
    clear hz hbig
    go_wp2
    go_ret
    exact ⟨rfl, Hbl.out.alloc Hbl.out.size _⟩

set_option maxRecDepth 100000 in
set_option maxHeartbeats 6400000 in
theorem solve_ct (v : Int) (A : Option Addr) (n c : Nat) (cs : List (List Int)) (w : World) (hv1 : -9223372036854775808 ≤ v) (hv2 : v ≤ 9223372036854775807) (h : Rd (Enc.sl Enc.int) w A n c cs) (hA : ∀ ad, A = some ad → ∃ b off, ad = ⟨b, off, none⟩) :
    Calls Try.prog 5 #[.agg #[.int .i64 v, .slice A n c]] w (Gives w (.bool true)) := by
  have H := hide h
  have HA := hide hA
  clear h hA
  have Hbl := hide (Below.refl w.heap.size w)
  go_enter Try.func5, Try.ntmps5
  go_wp2_with fail
  have hyb := Blk.new (w) 51 [.int .i64 v, .slice A n c]
  have hbW : Below (w).heap.size (w) ((w).alloc (.cells #[.int .i64 v, .slice A n c] 51)) := (Below.refl _ _).alloc (Nat.le_refl _) _
  obtain ⟨w0, hW⟩ : ∃ W, W = (w).alloc (.cells #[.int .i64 v, .slice A n c] 51) := ⟨_, rfl⟩
  rw [← hW] at hyb hbW ⊢
  replace Hbl := hide (Hbl.out.trans (hbW.mono Hbl.out.size))
  have Hb := hide hyb
  clear hW hbW hyb
  generalize w.heap.size = gb at Hb ⊢
  have b0 := Hb.out.cell 0
  have b1 := Hb.out.cell 1
  have bl := Hb.out.lt
  simp only [List.getElem?_cons_zero, List.getElem?_cons_succ] at b0 b1
  with_reducible refine (resolveExample_ct _).mono ?_
  rintro e w1 ⟨rfl, hb⟩
  clear b0 b1 bl
  replace Hb := hide (Hb.out.keep hb)
  replace Hbl := hide (Hbl.out.trans (hb.mono Hbl.out.size))
  clear hb
  have b0 := Hb.out.cell 0
  have b1 := Hb.out.cell 1
  have bl := Hb.out.lt
  simp only [List.getElem?_cons_zero, List.getElem?_cons_succ] at b0 b1
  go_wp2_with fail
  with_reducible refine (Solve_ct v A n c cs w1 hv1 hv2 (H.out.keep Hbl.out) HA.out).mono ?_
  rintro e w2 ⟨hb, hs⟩
  clear b0 b1 bl
  replace Hb := hide (Hb.out.keep hb)
  replace Hbl := hide (Hbl.out.trans (hb.mono Hbl.out.size))
  clear hb
  rcases hs with ⟨hf, rfl⟩ | ⟨hz, hs⟩
  · unfold three
    have hcf := fun w' hw' => CnfFault_ct v A n c cs w' hw'
    unfold faultV at hcf
    generalize hq : cnfFault v cs = q at *
    obtain ⟨ec, ei⟩ := q
    simp only at hf hcf ⊢
    have Hcf := hide hcf
    have Hq := hide hq
    have hne : (ec != 0) = true := by simpa using hf
    clear hf hcf hq
    have b0 := Hb.out.cell 0
    have b1 := Hb.out.cell 1
    have bl := Hb.out.lt
    simp only [List.getElem?_cons_zero, List.getElem?_cons_succ] at b0 b1
    go_upto_region 4 with (fail)
    have hyx := Blk.new (w2) 29 [.int .i64 ec, .int .i64 ei]
    have hbW : Below (w2).heap.size (w2) ((w2).alloc (.cells #[.int .i64 ec, .int .i64 ei] 29)) := (Below.refl _ _).alloc (Nat.le_refl _) _
    obtain ⟨w3, hW⟩ : ∃ W, W = (w2).alloc (.cells #[.int .i64 ec, .int .i64 ei] 29) := ⟨_, rfl⟩
    rw [← hW] at hyx hbW ⊢
    replace Hb := hide (Hb.out.keep hbW)
    replace Hbl := hide (Hbl.out.trans (hbW.mono Hbl.out.size))
    have Hx := hide hyx
    clear hW hbW hyx
    generalize w2.heap.size = gx at Hx ⊢
    have b0 := Hb.out.cell 0
    have b1 := Hb.out.cell 1
    have bl := Hb.out.lt
    have x0 := Hx.out.cell 0
    have x1 := Hx.out.cell 1
    have xl := Hx.out.lt
    simp only [List.getElem?_cons_zero, List.getElem?_cons_succ] at b0 b1 x0 x1
    go_wp2_with fail
    with_reducible refine (Hcf.out _ (H.out.keep Hbl.out)).mono ?_
    rintro e w4 ⟨rfl, hb⟩
    clear b0 b1 x0 x1 bl xl
    replace Hb := hide (Hb.out.keep hb)
    replace Hx := hide (Hx.out.keep hb)
    replace Hbl := hide (Hbl.out.trans (hb.mono Hbl.out.size))
    clear hb
    have b0 := Hb.out.cell 0
    have b1 := Hb.out.cell 1
    have bl := Hb.out.lt
    have x0 := Hx.out.cell 0
    have x1 := Hx.out.cell 1
    have xl := Hx.out.lt
    simp only [List.getElem?_cons_zero, List.getElem?_cons_succ] at b0 b1 x0 x1
    go_wp2
    go_ret
    exact ⟨rfl, Hbl.out.alloc Hbl.out.size _⟩
  · obtain ⟨f1, f2, f3, f4⟩ := fault_clean hz
    obtain ⟨V, rfl⟩ : ∃ V : Nat, v = (V : Int) := ⟨v.toNat, by omega⟩
    rw [Int.toNat_natCast] at f4 hs
    have hcf := fun w' hw' => CnfFault_ct V A n c cs w' hw'
    rw [cnfFault_zero hz] at hcf
    unfold faultV at hcf
    have Hcf := hide hcf
    have Hcl := hide f4
    have hV : V ≤ 80 := by omega
    have hn : n ≤ 1500 := by rw [H.out.len] at f3; exact f3
    clear hz hcf f4 f1 f2 f3
    rcases hs with ⟨A2, c2, mo, rfl, hm1, hm2, hm3⟩ | ⟨A2, n2, c2, L, rfl, hr1, hr2, hr3, hr4, hr5⟩ | ⟨rfl, hbig⟩
    · unfold three
      have hsat := satR_of hm1 hm2
      have Hsat := hide hsat
      have Hm1 := hide hm1
      have Hm2 := hide hm2
      have Hm3 := hide hm3
      clear hsat hm1 hm2 hm3
      have b0 := Hb.out.cell 0
      have b1 := Hb.out.cell 1
      have bl := Hb.out.lt
      simp only [List.getElem?_cons_zero, List.getElem?_cons_succ] at b0 b1
      go_upto_region 4 with (fail)
      have hyx := Blk.new (w2) 29 [.int .i64 0, .int .i64 0]
      have hbW : Below (w2).heap.size (w2) ((w2).alloc (.cells #[.int .i64 0, .int .i64 0] 29)) := (Below.refl _ _).alloc (Nat.le_refl _) _
      obtain ⟨w3, hW⟩ : ∃ W, W = (w2).alloc (.cells #[.int .i64 0, .int .i64 0] 29) := ⟨_, rfl⟩
      rw [← hW] at hyx hbW ⊢
      replace Hb := hide (Hb.out.keep hbW)
      replace Hm3 := hide (Hm3.out.keep hbW)
      replace Hbl := hide (Hbl.out.trans (hbW.mono Hbl.out.size))
      have Hx := hide hyx
      clear hW hbW hyx
      generalize w2.heap.size = gx at Hx ⊢
      have b0 := Hb.out.cell 0
      have b1 := Hb.out.cell 1
      have bl := Hb.out.lt
      have x0 := Hx.out.cell 0
      have x1 := Hx.out.cell 1
      have xl := Hx.out.lt
      simp only [List.getElem?_cons_zero, List.getElem?_cons_succ] at b0 b1 x0 x1
      go_wp2_with fail
      with_reducible refine (Hcf.out _ (H.out.keep Hbl.out)).mono ?_
      rintro e w4 ⟨rfl, hb⟩
      clear b0 b1 x0 x1 bl xl
      replace Hb := hide (Hb.out.keep hb)
      replace Hx := hide (Hx.out.keep hb)
      replace Hm3 := hide (Hm3.out.keep hb)
      replace Hbl := hide (Hbl.out.trans (hb.mono Hbl.out.size))
      clear hb
      have b0 := Hb.out.cell 0
      have b1 := Hb.out.cell 1
      have bl := Hb.out.lt
      have x0 := Hx.out.cell 0
      have x1 := Hx.out.cell 1
      have xl := Hx.out.lt
      simp only [List.getElem?_cons_zero, List.getElem?_cons_succ] at b0 b1 x0 x1
      go_upto_region 5 with (fail)
      have hyy := Blk.new (w4) 29 [.int .i64 0, .int .i64 0]
      have hbW : Below (w4).heap.size (w4) ((w4).alloc (.cells #[.int .i64 0, .int .i64 0] 29)) := (Below.refl _ _).alloc (Nat.le_refl _) _
      obtain ⟨w5, hW⟩ : ∃ W, W = (w4).alloc (.cells #[.int .i64 0, .int .i64 0] 29) := ⟨_, rfl⟩
      rw [← hW] at hyy hbW ⊢
      replace Hb := hide (Hb.out.keep hbW)
      replace Hx := hide (Hx.out.keep hbW)
      replace Hm3 := hide (Hm3.out.keep hbW)
      replace Hbl := hide (Hbl.out.trans (hbW.mono Hbl.out.size))
      have Hy := hide hyy
      clear hW hbW hyy
      generalize w4.heap.size = gy at Hy ⊢
      have b0 := Hb.out.cell 0
      have b1 := Hb.out.cell 1
      have bl := Hb.out.lt
      have x0 := Hx.out.cell 0
      have x1 := Hx.out.cell 1
      have xl := Hx.out.lt
      have y0 := Hy.out.cell 0
      have y1 := Hy.out.cell 1
      have yl := Hy.out.lt
      simp only [List.getElem?_cons_zero, List.getElem?_cons_succ] at b0 b1 x0 x1 y0 y1
      by_cases hV10 : (10 : Int) < V
      · go_wp2
        go_ret
        exact ⟨rfl, Hbl.out⟩
      · go_wp2_with fail
        have hst := Satisfiable_ct V A n c cs w5 (by omega) (H.out.keep Hbl.out) (fun l hl x hx => (Hcl.out l hl).1 x hx)
        rw [Hsat.out] at hst
        with_reducible refine (hst).mono ?_
        rintro e w6 ⟨rfl, hb⟩
        clear b0 b1 x0 x1 y0 y1 bl xl yl
        replace Hb := hide (Hb.out.keep hb)
        replace Hx := hide (Hx.out.keep hb)
        replace Hy := hide (Hy.out.keep hb)
        replace Hm3 := hide (Hm3.out.keep hb)
        replace Hbl := hide (Hbl.out.trans (hb.mono Hbl.out.size))
        clear hb
        clear hst
        have b0 := Hb.out.cell 0
        have b1 := Hb.out.cell 1
        have bl := Hb.out.lt
        have x0 := Hx.out.cell 0
        have x1 := Hx.out.cell 1
        have xl := Hx.out.lt
        have y0 := Hy.out.cell 0
        have y1 := Hy.out.cell 1
        have yl := Hy.out.lt
        simp only [List.getElem?_cons_zero, List.getElem?_cons_succ] at b0 b1 x0 x1 y0 y1
        go_wp2_with fail
        refine (Satisfies_ct A A2 n c V c2 cs mo _ (H.out.keep Hbl.out) Hm3.out (by omega) (fun l hl x hx => (Hcl.out l hl).1 x hx)).mono ?_
        rintro e w7 ⟨rfl, rfl⟩
        rw [Hm2.out]
        go_wp2
        go_ret
        exact ⟨rfl, Hbl.out⟩
    · unfold three
      have hno : satR V cs = false := satR_no (fun m hm => check_no Hcl.out hr2 hm hr3)
      have href : refutesR V cs L = true := by rw [← check_ref Hcl.out hr2]; exact hr3
      have Hno := hide hno
      have Href := hide href
      have HL := hide hr1
      have HLc := hide hr2
      have hz0 : (n2 : Int) ≤ 4000 := by omega
      clear hno href hr1 hr2 hr3
      have b0 := Hb.out.cell 0
      have b1 := Hb.out.cell 1
      have bl := Hb.out.lt
      simp only [List.getElem?_cons_zero, List.getElem?_cons_succ] at b0 b1
      go_upto_region 4 with (fail)
      have hyx := Blk.new (w2) 29 [.int .i64 0, .int .i64 0]
      have hbW : Below (w2).heap.size (w2) ((w2).alloc (.cells #[.int .i64 0, .int .i64 0] 29)) := (Below.refl _ _).alloc (Nat.le_refl _) _
      obtain ⟨w3, hW⟩ : ∃ W, W = (w2).alloc (.cells #[.int .i64 0, .int .i64 0] 29) := ⟨_, rfl⟩
      rw [← hW] at hyx hbW ⊢
      replace Hb := hide (Hb.out.keep hbW)
      replace HL := hide (HL.out.keep hbW)
      replace Hbl := hide (Hbl.out.trans (hbW.mono Hbl.out.size))
      have Hx := hide hyx
      clear hW hbW hyx
      generalize w2.heap.size = gx at Hx ⊢
      have b0 := Hb.out.cell 0
      have b1 := Hb.out.cell 1
      have bl := Hb.out.lt
      have x0 := Hx.out.cell 0
      have x1 := Hx.out.cell 1
      have xl := Hx.out.lt
      simp only [List.getElem?_cons_zero, List.getElem?_cons_succ] at b0 b1 x0 x1
      go_wp2_with fail
      with_reducible refine (Hcf.out _ (H.out.keep Hbl.out)).mono ?_
      rintro e w4 ⟨rfl, hb⟩
      clear b0 b1 x0 x1 bl xl
      replace Hb := hide (Hb.out.keep hb)
      replace Hx := hide (Hx.out.keep hb)
      replace HL := hide (HL.out.keep hb)
      replace Hbl := hide (Hbl.out.trans (hb.mono Hbl.out.size))
      clear hb
      have b0 := Hb.out.cell 0
      have b1 := Hb.out.cell 1
      have bl := Hb.out.lt
      have x0 := Hx.out.cell 0
      have x1 := Hx.out.cell 1
      have xl := Hx.out.lt
      simp only [List.getElem?_cons_zero, List.getElem?_cons_succ] at b0 b1 x0 x1
      go_upto_region 5 with (fail)
      have hyy := Blk.new (w4) 29 [.int .i64 0, .int .i64 0]
      have hbW : Below (w4).heap.size (w4) ((w4).alloc (.cells #[.int .i64 0, .int .i64 0] 29)) := (Below.refl _ _).alloc (Nat.le_refl _) _
      obtain ⟨w5, hW⟩ : ∃ W, W = (w4).alloc (.cells #[.int .i64 0, .int .i64 0] 29) := ⟨_, rfl⟩
      rw [← hW] at hyy hbW ⊢
      replace Hb := hide (Hb.out.keep hbW)
      replace Hx := hide (Hx.out.keep hbW)
      replace HL := hide (HL.out.keep hbW)
      replace Hbl := hide (Hbl.out.trans (hbW.mono Hbl.out.size))
      have Hy := hide hyy
      clear hW hbW hyy
      generalize w4.heap.size = gy at Hy ⊢
      have b0 := Hb.out.cell 0
      have b1 := Hb.out.cell 1
      have bl := Hb.out.lt
      have x0 := Hx.out.cell 0
      have x1 := Hx.out.cell 1
      have xl := Hx.out.lt
      have y0 := Hy.out.cell 0
      have y1 := Hy.out.cell 1
      have yl := Hy.out.lt
      simp only [List.getElem?_cons_zero, List.getElem?_cons_succ] at b0 b1 x0 x1 y0 y1
      by_cases hV10 : (10 : Int) < V
      · go_wp2
        go_ret
        exact ⟨rfl, Hbl.out⟩
      · go_wp2_with fail
        have hst := Satisfiable_ct V A n c cs w5 (by omega) (H.out.keep Hbl.out) (fun l hl x hx => (Hcl.out l hl).1 x hx)
        rw [Hno.out] at hst
        with_reducible refine (hst).mono ?_
        rintro e w6 ⟨rfl, hb⟩
        clear b0 b1 x0 x1 y0 y1 bl xl yl
        replace Hb := hide (Hb.out.keep hb)
        replace Hx := hide (Hx.out.keep hb)
        replace Hy := hide (Hy.out.keep hb)
        replace HL := hide (HL.out.keep hb)
        replace Hbl := hide (Hbl.out.trans (hb.mono Hbl.out.size))
        clear hb
        clear hst
        have b0 := Hb.out.cell 0
        have b1 := Hb.out.cell 1
        have bl := Hb.out.lt
        have x0 := Hx.out.cell 0
        have x1 := Hx.out.cell 1
        have xl := Hx.out.lt
        have y0 := Hy.out.cell 0
        have y1 := Hy.out.cell 1
        have yl := Hy.out.lt
        simp only [List.getElem?_cons_zero, List.getElem?_cons_succ] at b0 b1 x0 x1 y0 y1
        go_wp2_with fail
        have hst := Refutes_ct V A n c cs A2 n2 c2 L w6 (by omega) (H.out.keep Hbl.out) (by omega) HL.out (by omega) Hcl.out HLc.out
        rw [Href.out] at hst
        with_reducible refine (hst).mono ?_
        rintro e w7 ⟨rfl, hb⟩
        clear b0 b1 x0 x1 y0 y1 bl xl yl
        replace Hb := hide (Hb.out.keep hb)
        replace Hx := hide (Hx.out.keep hb)
        replace Hy := hide (Hy.out.keep hb)
        replace HL := hide (HL.out.keep hb)
        replace Hbl := hide (Hbl.out.trans (hb.mono Hbl.out.size))
        clear hb
        clear hst
        have b0 := Hb.out.cell 0
        have b1 := Hb.out.cell 1
        have bl := Hb.out.lt
        have x0 := Hx.out.cell 0
        have x1 := Hx.out.cell 1
        have xl := Hx.out.lt
        have y0 := Hy.out.cell 0
        have y1 := Hy.out.cell 1
        have yl := Hy.out.lt
        simp only [List.getElem?_cons_zero, List.getElem?_cons_succ] at b0 b1 x0 x1 y0 y1
        go_wp2
        go_ret
        exact ⟨rfl, Hbl.out⟩
    · unfold three
      have Hbig := hide hbig
      clear hbig
      have b0 := Hb.out.cell 0
      have b1 := Hb.out.cell 1
      have bl := Hb.out.lt
      simp only [List.getElem?_cons_zero, List.getElem?_cons_succ] at b0 b1
      go_upto_region 4 with (fail)
      have hyx := Blk.new (w2) 29 [.int .i64 10, .int .i64 (-3)]
      have hbW : Below (w2).heap.size (w2) ((w2).alloc (.cells #[.int .i64 10, .int .i64 (-3)] 29)) := (Below.refl _ _).alloc (Nat.le_refl _) _
      obtain ⟨w3, hW⟩ : ∃ W, W = (w2).alloc (.cells #[.int .i64 10, .int .i64 (-3)] 29) := ⟨_, rfl⟩
      rw [← hW] at hyx hbW ⊢
      replace Hb := hide (Hb.out.keep hbW)
      replace Hbl := hide (Hbl.out.trans (hbW.mono Hbl.out.size))
      have Hx := hide hyx
      clear hW hbW hyx
      generalize w2.heap.size = gx at Hx ⊢
      have b0 := Hb.out.cell 0
      have b1 := Hb.out.cell 1
      have bl := Hb.out.lt
      have x0 := Hx.out.cell 0
      have x1 := Hx.out.cell 1
      have xl := Hx.out.lt
      simp only [List.getElem?_cons_zero, List.getElem?_cons_succ] at b0 b1 x0 x1
      go_wp2_with fail
      with_reducible refine (Hcf.out _ (H.out.keep Hbl.out)).mono ?_
      rintro e w4 ⟨rfl, hb⟩
      clear b0 b1 x0 x1 bl xl
      replace Hb := hide (Hb.out.keep hb)
      replace Hx := hide (Hx.out.keep hb)
      replace Hbl := hide (Hbl.out.trans (hb.mono Hbl.out.size))
      clear hb
      have b0 := Hb.out.cell 0
      have b1 := Hb.out.cell 1
      have bl := Hb.out.lt
      have x0 := Hx.out.cell 0
      have x1 := Hx.out.cell 1
      have xl := Hx.out.lt
      simp only [List.getElem?_cons_zero, List.getElem?_cons_succ] at b0 b1 x0 x1
      go_upto_region 5 with (fail)
      have hyy := Blk.new (w4) 29 [.int .i64 0, .int .i64 0]
      have hbW : Below (w4).heap.size (w4) ((w4).alloc (.cells #[.int .i64 0, .int .i64 0] 29)) := (Below.refl _ _).alloc (Nat.le_refl _) _
      obtain ⟨w5, hW⟩ : ∃ W, W = (w4).alloc (.cells #[.int .i64 0, .int .i64 0] 29) := ⟨_, rfl⟩
      rw [← hW] at hyy hbW ⊢
      replace Hb := hide (Hb.out.keep hbW)
      replace Hx := hide (Hx.out.keep hbW)
      replace Hbl := hide (Hbl.out.trans (hbW.mono Hbl.out.size))
      have Hy := hide hyy
      clear hW hbW hyy
      generalize w4.heap.size = gy at Hy ⊢
      have b0 := Hb.out.cell 0
      have b1 := Hb.out.cell 1
      have bl := Hb.out.lt
      have x0 := Hx.out.cell 0
      have x1 := Hx.out.cell 1
      have xl := Hx.out.lt
      have y0 := Hy.out.cell 0
      have y1 := Hy.out.cell 1
      have yl := Hy.out.lt
      simp only [List.getElem?_cons_zero, List.getElem?_cons_succ] at b0 b1 x0 x1 y0 y1
      by_cases hV10 : (10 : Int) < V
      · go_wp2
        go_ret
        exact ⟨rfl, Hbl.out⟩
      · exfalso
        have h1 := Hbig.out
        have h2 : 2 ^ V ≤ 2 ^ 10 := Nat.pow_le_pow_right (by omega) (by omega)
        omega

/-- Solve in short -/
def SolveS (v : Int) (cs : List (List Int)) (n2 : Nat) (ec : Int) : Prop :=
  (ec = 0 → (n2 = 0 ∧ ∃ m : List Bool, m.length = v.toNat ∧ trueAll cs m = true) ∨ (0 < n2 ∧ ∀ m : List Bool, m.length = v.toNat → trueAll cs m = false)) ∧ ((cnfFault v cs).1 = 0 → v ≤ 10 → ec = 0) ∧ ((cnfFault v cs).1 ≠ 0 → ec ≠ 0)
def SolveSP (w : World) (v : Int) (cs : List (List Int)) (e : Ending) (w' : World) : Prop :=
  ∃ (A1 : Option Addr) (n1 c1 : Nat) (A2 : Option Addr) (n2 c2 : Nat) (ec ei : Int), e = three (.slice A1 n1 c1) (.slice A2 n2 c2) ec ei ∧ Below w.heap.size w w' ∧ SolveS v cs n2 ec
theorem solve_s {v : Int} {cs : List (List Int)} {w : World} {e : Ending} {w' : World} (h : SolveP w v cs e w') : SolveSP w v cs e w' := by
  obtain ⟨hb, ⟨h1, he⟩ | ⟨hz, ⟨A, c, m, he, hm1, hm2, hm3⟩ | ⟨A, n, c, L, he, hr1, hr2, hr3, hr4, hr5⟩ | ⟨he, hbig⟩⟩⟩ := h
  · exact ⟨_, _, _, _, _, _, _, _, he, hb, fun e => absurd e h1, fun e => absurd e h1, fun _ => h1⟩
  · exact ⟨_, _, _, _, _, _, _, _, he, hb, fun _ => .inl ⟨rfl, m, hm1, hm2⟩, fun _ _ => rfl, fun e => absurd hz e⟩
  · refine ⟨_, _, _, _, _, _, _, _, he, hb, fun _ => .inr ⟨hr4, fun m hm => ?_⟩, fun _ _ => rfl, fun e => absurd hz e⟩
    obtain ⟨f1, f2, f3, f4⟩ := fault_clean hz
    exact check_no f4 hr2 hm hr3
  · refine ⟨_, _, _, _, _, _, _, _, he, hb, (fun e => by cases e), fun h1 h2 => ?_, fun e => absurd hz e⟩
    have : 2 ^ v.toNat ≤ 2 ^ 10 := Nat.pow_le_pow_right (by omega) (by omega)
    omega
theorem only_pure {v : Int} {cs : List (List Int)} {q na nb : Nat} {ec1 ec2 : Int} (hv : v ≤ 10) (h1 : SolveS v cs na ec1) (h2 : SolveS v (cs.take q) nb ec2) : ec1 ≠ 0 ∨ (ec2 = 0 ∧ (0 < na ∨ nb = 0)) := by
  by_cases e : ec1 = 0
  · right
    have hz : (cnfFault v cs).1 = 0 := Decidable.byContradiction fun h => h1.2.2 h e
    have hz2 : (cnfFault v (cs.take q)).1 = 0 := by rw [fault_part hz (fun c hc => List.mem_of_mem_take hc) (by rw [List.length_take]; omega)]
    have e2 := h2.2.1 hz2 hv
    refine ⟨e2, ?_⟩
    rcases h1.1 e with ⟨_, m, hm1, hm2⟩ | ⟨h3, _⟩
    · rcases h2.1 e2 with ⟨h4, _⟩ | ⟨_, h4⟩
      · exact .inr h4
      · have := h4 m hm1
        rw [true_part hm2 (fun c hc => List.mem_of_mem_take hc)] at this
        cases this
    · exact .inl h3
  · exact .inl e

set_option maxRecDepth 100000 in
set_option maxHeartbeats 6400000 in
theorem only_ct (v : Int) (A : Option Addr) (n c : Nat) (cs : List (List Int)) (k : Int) (w : World) (hv1 : -9223372036854775808 ≤ v) (hv2 : v ≤ 9223372036854775807) (hk1 : -9223372036854775808 ≤ k) (hk2 : k ≤ 9223372036854775807) (h : Rd (Enc.sl Enc.int) w A n c cs) (hA : ∀ ad, A = some ad → ∃ b off, ad = ⟨b, off, none⟩) :
    Calls Try.prog 7 #[.agg #[.int .i64 v, .slice A n c], .int .i64 k] w (Gives w (.bool true)) := by
  have hsm := h.low
  have hcap := h.cap
  have H := hide h
  have HA := hide hA
  clear h hA
  have Hbl := hide (Below.refl w.heap.size w)
  go_enter Try.func7, Try.ntmps7
  go_wp2_with fail
  have hyb := Blk.new (w) 51 [.int .i64 v, .slice A n c]
  have hbW : Below (w).heap.size (w) ((w).alloc (.cells #[.int .i64 v, .slice A n c] 51)) := (Below.refl _ _).alloc (Nat.le_refl _) _
  obtain ⟨w0, hW⟩ : ∃ W, W = (w).alloc (.cells #[.int .i64 v, .slice A n c] 51) := ⟨_, rfl⟩
  rw [← hW] at hyb hbW ⊢
  replace Hbl := hide (Hbl.out.trans (hbW.mono Hbl.out.size))
  have Hb := hide hyb
  clear hW hbW hyb
  generalize w.heap.size = gb at Hb ⊢
  have b0 := Hb.out.cell 0
  have b1 := Hb.out.cell 1
  have bl := Hb.out.lt
  simp only [List.getElem?_cons_zero, List.getElem?_cons_succ] at b0 b1
  with_reducible refine (resolveExample_ct _).mono ?_
  rintro e w1 ⟨rfl, hb⟩
  clear b0 b1 bl
  replace Hb := hide (Hb.out.keep hb)
  replace Hbl := hide (Hbl.out.trans (hb.mono Hbl.out.size))
  clear hb
  have b0 := Hb.out.cell 0
  have b1 := Hb.out.cell 1
  have bl := Hb.out.lt
  simp only [List.getElem?_cons_zero, List.getElem?_cons_succ] at b0 b1
  by_cases hv10 : 10 < v
  · go_wp2
    go_ret
    exact ⟨rfl, Hbl.out⟩
  rcases hin : inB k 0 n with _ | _
  · have hct := In_ct k 0 n w1
    rw [hin] at hct
    have Hct := hide hct
    clear hct hin
    go_wp2_with (go_at_call 37; refine Hct.out.mono ?_; rintro e w2 ⟨rfl, rfl⟩)
    go_ret
    exact ⟨rfl, Hbl.out⟩
  obtain ⟨q, rfl⟩ : ∃ q : Nat, k = (q : Int) := ⟨k.toNat, by have := (inB_iff.1 hin).1; omega⟩
  have hqn : q ≤ n := by have := (inB_iff.1 hin).2; omega
  have hct := In_ct (q : Int) 0 n w1
  rw [hin] at hct
  have Hct := hide hct
  have Hv10 := hide hv10
  clear hct hin
  go_wp2_with (go_at_call 37; refine Hct.out.mono ?_; rintro e w2 ⟨rfl, rfl⟩)
  with_reducible refine (Solve_ct v A n c cs w1 hv1 hv2 (H.out.keep Hbl.out) HA.out).mono ?_
  intro e w2 hs
  obtain ⟨A1, n1, c1, A2, n2, c2, ec, ei, rfl, hb, hs1⟩ := solve_s hs
  have Hs1 := hide hs1
  clear hs hs1
  clear b0 b1 bl
  replace Hb := hide (Hb.out.keep hb)
  replace Hbl := hide (Hbl.out.trans (hb.mono Hbl.out.size))
  clear hb Hct
  unfold three
  have b0 := Hb.out.cell 0
  have b1 := Hb.out.cell 1
  have bl := Hb.out.lt
  simp only [List.getElem?_cons_zero, List.getElem?_cons_succ] at b0 b1
  go_upto_region 6 with (fail)
  have hyx := Blk.new (w2) 29 [.int .i64 ec, .int .i64 ei]
  have hbW : Below (w2).heap.size (w2) ((w2).alloc (.cells #[.int .i64 ec, .int .i64 ei] 29)) := (Below.refl _ _).alloc (Nat.le_refl _) _
  obtain ⟨w3, hW⟩ : ∃ W, W = (w2).alloc (.cells #[.int .i64 ec, .int .i64 ei] 29) := ⟨_, rfl⟩
  rw [← hW] at hyx hbW ⊢
  replace Hb := hide (Hb.out.keep hbW)
  replace Hbl := hide (Hbl.out.trans (hbW.mono Hbl.out.size))
  have Hx := hide hyx
  clear hW hbW hyx
  generalize w2.heap.size = gx at Hx ⊢
  have b0 := Hb.out.cell 0
  have b1 := Hb.out.cell 1
  have bl := Hb.out.lt
  have x0 := Hx.out.cell 0
  have x1 := Hx.out.cell 1
  have xl := Hx.out.lt
  simp only [List.getElem?_cons_zero, List.getElem?_cons_succ] at b0 b1 x0 x1
  have hqc : q ≤ c := Nat.le_trans hqn hcap
  go_cut [8, 9, 10] (fun s8 s9 s10 wc => ∃ (B1 : Option Addr) (m1 d1 : Nat) (B2 : Option Addr) (m2 d2 g : Nat) (fc fi : Int), s8 = .slice B1 m1 d1 ∧ s9 = .slice B2 m2 d2 ∧ s10 = .pointer (some ⟨g, 0, none⟩) ∧ Blk 29 wc g [.int .i64 fc, .int .i64 fi] ∧ Below w3.heap.size w3 wc ∧ SolveS v (cs.take q) m2 fc)
  case first =>
    have hct : ∀ W' : World, Below w3.heap.size w3 W' → Calls Try.prog 30 #[.agg #[.int .i64 v, .slice A q c]] W' (SolveSP W' v (cs.take q)) := fun W' hW =>
      (Solve_ct v A q c (cs.take q) W' hv1 hv2 (((H.out.keep Hbl.out).keep hW).upto hqn) HA.out).mono fun e w' hs => solve_s hs
    have Hct := hide hct
    clear hct
    have hz5 : ¬ gb = w3.heap.size := by omega
    have hz6 : ¬ w3.heap.size = gb := by omega
    go_region_held3 (fun w' => w'.cell? ⟨gb, 0, none⟩ = some (.int .i64 v) ∧ w'.cell? ⟨gb, 1, none⟩ = some (.slice A n c)) (first | go_keep) (first
      | (go_at_call 30
         refine (Hct.out _ (by exact (Below.refl _ _).drew)).mono ?_
         rintro e wq ⟨B1, m1, d1, B2, m2, d2, fc, fi, rfl, hbq, hsq⟩
         unfold three
         have Hsq := hide hsq
         clear hsq
         obtain ⟨hk1, hk2⟩ := (Hb.out.qt (Qt.refl _).drew |>.keep hbq).cell2
         have hzq : w3.heap.size ≤ wq.heap.size := hbq.size)
      | (go_at_call 30
         refine (Hct.out _ (by exact ((Below.refl _ _).drew).alloc (Nat.le_refl _) _)).mono ?_
         rintro e wq ⟨B1, m1, d1, B2, m2, d2, fc, fi, rfl, hbq, hsq⟩
         unfold three
         have Hsq := hide hsq
         clear hsq
         have hBq := (Blk.new w3.drew 29 [.int .i64 0, .int .i64 0]).keep hbq
         have hq1 : wq.cell? ⟨w3.heap.size, 0, none⟩ = some (.int .i64 0) := hBq.cell 0
         have hq2 : wq.cell? ⟨w3.heap.size, 1, none⟩ = some (.int .i64 0) := hBq.cell 1
         have hq3 : wq.frozen? ⟨w3.heap.size, 0, none⟩ = false := hBq.frozen 0
         have hq4 : wq.frozen? ⟨w3.heap.size, 1, none⟩ = false := hBq.frozen 1
         obtain ⟨hk1, hk2⟩ := (((Hb.out.qt (Qt.refl _).drew).alloc _).keep hbq).cell2
         have hzq : w3.heap.size < wq.heap.size := hBq.lt))
    all_goals go_wp2_with fail
    all_goals go_meet
    all_goals first
      | exact ⟨_, _, _, _, _, _, _, fc, fi, rfl, rfl, rfl, Blk.new wq _ _, ((Below.refl _ _).drew.trans hbq).alloc hbq.size _, Hsq.out⟩
      | exact ⟨_, _, _, _, _, _, _, fc, fi, rfl, rfl, rfl, (hBq.set 0 _).set 1 _, below_res2 ((((Below.refl _ _).drew).alloc (Nat.le_refl _) _).trans (hbq.mono (by simp))) (Nat.le_refl _) _ _, Hsq.out⟩
  case rest =>
    obtain ⟨B1, m1, d1, B2, m2, d2, g, fc, fi, rfl, rfl, rfl, hbg, hbw, hs2⟩ := hcut
    have hfin := only_pure (by have := Hv10.out; omega) Hs1.out hs2
    have Hfin := hide hfin
    have Hx2 := hide (Hx.out.keep hbw)
    replace Hbl := hide (Hbl.out.trans (hbw.mono Hbl.out.size))
    clear x0 x1 xl b0 b1 bl hs2 hfin
    have x0 := Hx2.out.cell 0
    have xl := Hx2.out.lt
    have y0 := hbg.cell 0
    have yl := hbg.lt
    simp only [List.getElem?_cons_zero, List.getElem?_cons_succ] at x0 y0
    by_cases e1 : ec = 0
    · subst e1
      obtain ⟨e2, e3⟩ := Hfin.out.resolve_left (fun h => h rfl)
      subst e2
      rcases Nat.eq_zero_or_pos n2 with h0 | h0
      · subst h0
        obtain rfl : m2 = 0 := by omega
        clear e3
        go_wp2
        go_ret
        exact ⟨rfl, Hbl.out⟩
      · have h1 : (0 : Int) < (n2 : Int) := by omega
        clear e3
        go_wp2
        go_ret
        exact ⟨rfl, Hbl.out⟩
    · have hne : (ec != 0) = true := by simpa using e1
      go_wp2
      go_ret
      exact ⟨rfl, Hbl.out⟩

/-- the fault that the reference finds -/
def wref (v : Int) (cs L : List (List Int)) : Int × Int := if (cnfFault v cs).1 ≠ 0 then cnfFault v cs else if 4000 < L.length then (2, -2) else faultFrom v 0 L
theorem wref_check (v : Int) (cs L : List (List Int)) : (checkR v cs L).2 = wref v cs L ∧ ((wref v cs L).1 ≠ 0 → (checkR v cs L).1 = false) ∧ ((wref v cs L).1 = 0 → checkR v cs L = (checkB v.toNat cs L, 0, 0)) := by
  unfold wref checkR
  by_cases h1 : (cnfFault v cs).1 ≠ 0
  · rw [if_pos h1, if_pos h1]
    exact ⟨rfl, fun _ => rfl, fun h => absurd h h1⟩
  · rw [if_neg h1, if_neg h1]
    by_cases h2 : 4000 < L.length
    · rw [if_pos h2, if_pos h2]
      exact ⟨rfl, fun _ => rfl, fun h => absurd h (by decide)⟩
    · rw [if_neg h2, if_neg h2]
      by_cases h3 : (faultFrom v 0 L).1 ≠ 0
      · rw [if_pos h3]
        exact ⟨rfl, fun _ => rfl, fun h => absurd h h3⟩
      · rw [if_neg h3]
        exact ⟨(faultFrom_zero (by simpa using h3)).symm, fun h => absurd h h3, fun _ => rfl⟩

set_option maxRecDepth 100000 in
set_option maxHeartbeats 6400000 in
theorem check_ct (v : Int) (A : Option Addr) (n c : Nat) (cs : List (List Int)) (B : Option Addr) (m d : Nat) (L : List (List Int)) (w : World) (hv1 : -9223372036854775808 ≤ v) (hv2 : v ≤ 9223372036854775807) (h : Rd (Enc.sl Enc.int) w A n c cs) (hA : ∀ ad, A = some ad → ∃ b off, ad = ⟨b, off, none⟩) (hl : Rd (Enc.sl Enc.int) w B m d L) :
    Calls Try.prog 6 #[.agg #[.int .i64 v, .slice A n c], .slice B m d] w (Gives w (.bool true)) := by
  have hsm := hl.low
  rcases hr : checkR v cs L with ⟨kb, kc, ki⟩
  have hw := wref_check v cs L
  rw [hr] at hw
  obtain ⟨hw1, hw2, hw3⟩ := hw
  simp only at hw1 hw2 hw3
  have hwd : wref v cs L = if (cnfFault v cs).1 ≠ 0 then cnfFault v cs else if 4000 < m then (2, -2) else faultFrom v 0 L := by unfold wref; rw [hl.len]
  have hcz := fun h => cnfFault_zero (v := v) (cs := cs) h
  have hfc := fun h => fault_clean (v := v) (cs := cs) h
  have Hfc := hide hfc
  have Hwd2 := hide hwd
  clear hfc
  have hcf := fun w' hw' => CnfFault_ct v A n c cs w' hw'
  unfold faultV at hcf
  rcases hq : cnfFault v cs with ⟨ec, ei⟩
  rw [hq] at hwd hcf hcz
  simp only at hwd hcf hcz
  have Hr := hide hr
  have Hw1 := hide hw1
  have Hw2 := hide hw2
  have Hw3 := hide hw3
  have Hwd := hide hwd
  have Hcf := hide hcf
  have Hcz := hide hcz
  have Hq := hide hq
  have H := hide h
  have HA := hide hA
  have Hl := hide hl
  have Hlm := hide hl.len
  clear hr hw1 hw2 hw3 hwd hcf hcz hq h hA hl
  have Hbl := hide (Below.refl w.heap.size w)
  go_enter Try.func6, Try.ntmps6
  go_wp2_with fail
  have hyb := Blk.new (w) 51 [.int .i64 v, .slice A n c]
  have hbW : Below (w).heap.size (w) ((w).alloc (.cells #[.int .i64 v, .slice A n c] 51)) := (Below.refl _ _).alloc (Nat.le_refl _) _
  obtain ⟨w0, hW⟩ : ∃ W, W = (w).alloc (.cells #[.int .i64 v, .slice A n c] 51) := ⟨_, rfl⟩
  rw [← hW] at hyb hbW ⊢
  replace Hbl := hide (Hbl.out.trans (hbW.mono Hbl.out.size))
  have Hb := hide hyb
  clear hW hbW hyb
  generalize w.heap.size = gb at Hb ⊢
  have b0 := Hb.out.cell 0
  have b1 := Hb.out.cell 1
  have bl := Hb.out.lt
  simp only [List.getElem?_cons_zero, List.getElem?_cons_succ] at b0 b1
  with_reducible refine (resolveExample_ct _).mono ?_
  rintro e w1 ⟨rfl, hb⟩
  clear b0 b1 bl
  replace Hb := hide (Hb.out.keep hb)
  replace Hbl := hide (Hbl.out.trans (hb.mono Hbl.out.size))
  clear hb
  have b0 := Hb.out.cell 0
  have b1 := Hb.out.cell 1
  have bl := Hb.out.lt
  simp only [List.getElem?_cons_zero, List.getElem?_cons_succ] at b0 b1
  go_wp2_with fail
  have hck := Check_ct v A n c cs B m d L w1 hv1 hv2 (H.out.keep Hbl.out) HA.out (Hl.out.keep Hbl.out)
  rw [Hr.out] at hck
  with_reducible refine (hck).mono ?_
  rintro e w2 ⟨rfl, hb⟩
  clear b0 b1 bl
  replace Hb := hide (Hb.out.keep hb)
  replace Hbl := hide (Hbl.out.trans (hb.mono Hbl.out.size))
  clear hb
  clear hck
  unfold holdsV
  go_upto_region 4 with (fail)
  have hyx := Blk.new (w2) 29 [.int .i64 kc, .int .i64 ki]
  have hbW : Below (w2).heap.size (w2) ((w2).alloc (.cells #[.int .i64 kc, .int .i64 ki] 29)) := (Below.refl _ _).alloc (Nat.le_refl _) _
  obtain ⟨w3, hW⟩ : ∃ W, W = (w2).alloc (.cells #[.int .i64 kc, .int .i64 ki] 29) := ⟨_, rfl⟩
  rw [← hW] at hyx hbW ⊢
  replace Hb := hide (Hb.out.keep hbW)
  replace Hbl := hide (Hbl.out.trans (hbW.mono Hbl.out.size))
  have Hx := hide hyx
  clear hW hbW hyx
  generalize w2.heap.size = gx at Hx ⊢
  have b0 := Hb.out.cell 0
  have b1 := Hb.out.cell 1
  have bl := Hb.out.lt
  have x0 := Hx.out.cell 0
  have x1 := Hx.out.cell 1
  have xl := Hx.out.lt
  simp only [List.getElem?_cons_zero, List.getElem?_cons_succ] at b0 b1 x0 x1
  go_wp2_with fail
  with_reducible refine (Hcf.out _ (H.out.keep Hbl.out)).mono ?_
  rintro e w4 ⟨rfl, hb⟩
  clear b0 b1 x0 x1 bl xl
  replace Hb := hide (Hb.out.keep hb)
  replace Hx := hide (Hx.out.keep hb)
  replace Hbl := hide (Hbl.out.trans (hb.mono Hbl.out.size))
  clear hb
  have b0 := Hb.out.cell 0
  have b1 := Hb.out.cell 1
  have bl := Hb.out.lt
  have x0 := Hx.out.cell 0
  have x1 := Hx.out.cell 1
  have xl := Hx.out.lt
  simp only [List.getElem?_cons_zero, List.getElem?_cons_succ] at b0 b1 x0 x1
  go_upto_region 5 with (fail)
  have hgy := Hbl.out.size
  have hxy := Hx.out.lt
  have hby := Hb.out.lt
  have hyy := Blk.new (w4) 29 [.int .i64 ec, .int .i64 ei]
  have hbW : Below (w4).heap.size (w4) ((w4).alloc (.cells #[.int .i64 ec, .int .i64 ei] 29)) := (Below.refl _ _).alloc (Nat.le_refl _) _
  obtain ⟨w5, hW⟩ : ∃ W, W = (w4).alloc (.cells #[.int .i64 ec, .int .i64 ei] 29) := ⟨_, rfl⟩
  rw [← hW] at hyy hbW ⊢
  replace Hb := hide (Hb.out.keep hbW)
  replace Hx := hide (Hx.out.keep hbW)
  replace Hbl := hide (Hbl.out.trans (hbW.mono Hbl.out.size))
  have Hy := hide hyy
  clear hW hbW hyy
  generalize w4.heap.size = gy at Hy hgy hxy hby ⊢
  have b0 := Hb.out.cell 0
  have b1 := Hb.out.cell 1
  have bl := Hb.out.lt
  have x0 := Hx.out.cell 0
  have x1 := Hx.out.cell 1
  have xl := Hx.out.lt
  have y0 := Hy.out.cell 0
  have y1 := Hy.out.cell 1
  have yl := Hy.out.lt
  simp only [List.getElem?_cons_zero, List.getElem?_cons_succ] at b0 b1 x0 x1 y0 y1
  by_cases hec : ec = 0
  · subst hec
    have hz := Hcz.out rfl
    obtain ⟨_, e2⟩ := Prod.mk.inj hz
    subst e2
    clear hz
    by_cases hm : 4000 < m
    · have hwz : wref v cs L = (2, -2) := by rw [Hwd.out, if_neg (by simp), if_pos hm]
      have Hwz := hide hwz
      clear hwz
      go_wp2_with fail
      refine (At_ct _ _ _).mono ?_
      rintro e w6 ⟨rfl, hb⟩
      unfold fault
      clear b0 b1 x0 x1 y0 y1 bl xl yl
      replace Hb := hide (Hb.out.keep hb)
      replace Hx := hide (Hx.out.keep hb)
      replace Hy := hide (Hy.out.keep hb)
      replace Hbl := hide (Hbl.out.trans (hb.mono Hbl.out.size))
      clear hb
      have b0 := Hb.out.cell 0
      have b1 := Hb.out.cell 1
      have bl := Hb.out.lt
      have x0 := Hx.out.cell 0
      have x1 := Hx.out.cell 1
      have xl := Hx.out.lt
      have y0 := Hy.out.cell 0
      have y1 := Hy.out.cell 1
      have yl := Hy.out.lt
      simp only [List.getElem?_cons_zero, List.getElem?_cons_succ] at b0 b1 x0 x1 y0 y1
      have yf0 := Hy.out.frozen 0
      have yf1 := Hy.out.frozen 1
      go_upto_region 7 with (fail)
      have Hy2 := hide ((Hy.out.set 0 (.int .i64 2)).set 1 (.int .i64 (-2)))
      have Hx2 := hide ((Hx.out.far (p := ⟨gy, 0, none⟩) (by show gx ≠ gy; omega) (.int .i64 2)).far (p := ⟨gy, 1, none⟩) (by show gx ≠ gy; omega) (.int .i64 (-2)))
      have Hb2 := hide ((Hb.out.far (p := ⟨gy, 0, none⟩) (by show gb ≠ gy; omega) (.int .i64 2)).far (p := ⟨gy, 1, none⟩) (by show gb ≠ gy; omega) (.int .i64 (-2)))
      have Hbl2 := hide (below_res2 Hbl.out hgy (.int .i64 2) (.int .i64 (-2)))
      obtain ⟨w7, hw7⟩ : ∃ w7, w7 = (w6.setCell ⟨gy, 0, none⟩ (.int .i64 2)).setCell ⟨gy, 1, none⟩ (.int .i64 (-2)) := ⟨_, rfl⟩
      rw [← hw7] at Hy2 Hx2 Hb2 Hbl2 ⊢
      simp only [List.set_cons_zero, List.set_cons_succ] at Hy2
      clear hw7 Hbl yf0 yf1
      clear b0 b1 x0 x1 y0 y1 bl xl yl
      clear Hb Hx Hy
      have Hb := Hb2
      have Hx := Hx2
      have Hy := Hy2
      have Hbl := Hbl2
      clear Hb2 Hx2 Hy2 Hbl2
      have b0 := Hb.out.cell 0
      have b1 := Hb.out.cell 1
      have bl := Hb.out.lt
      have x0 := Hx.out.cell 0
      have x1 := Hx.out.cell 1
      have xl := Hx.out.lt
      have y0 := Hy.out.cell 0
      have y1 := Hy.out.cell 1
      have yl := Hy.out.lt
      simp only [List.getElem?_cons_zero, List.getElem?_cons_succ] at b0 b1 x0 x1 y0 y1
      go_wp2_with fail
      go_loopw [8] (fun i wr => ∃ (k : Nat) (a bb : Int), k ≤ m ∧ i = .int .i64 k ∧ Blk 51 wr gb [.int .i64 v, .slice A n c] ∧ Blk 29 wr gx [.int .i64 kc, .int .i64 ki] ∧ Blk 29 wr gy [.int .i64 a, .int .i64 bb] ∧ Below w.heap.size w wr ∧
        ((a = 0 ∧ bb = 0 ∧ (cnfFault v cs).1 = 0 ∧ wref v cs L = faultFrom v k (L.drop k)) ∨ (a ≠ 0 ∧ wref v cs L = (a, bb)))) (fun i _ => m - (intOf i).toNat)
      case atStart => exact ⟨0, 2, -2, by omega, rfl, Hb.out, Hx.out, Hy.out, Hbl.out, .inr ⟨by decide, Hwz.out⟩⟩
      case round =>
        clear Hb Hx Hy Hbl b0 b1 bl x0 x1 xl y0 y1 yl
        obtain ⟨k, a, bb, hk, rfl, hb, hx, hy, hbl, hrel⟩ := hrel
        have Hb := hide hb
        have Hx := hide hx
        have Hy := hide hy
        have Hbl := hide hbl
        clear hb hx hy hbl
        have b0 := Hb.out.cell 0
        have b1 := Hb.out.cell 1
        have bl := Hb.out.lt
        have x0 := Hx.out.cell 0
        have x1 := Hx.out.cell 1
        have xl := Hx.out.lt
        have y0 := Hy.out.cell 0
        have y1 := Hy.out.cell 1
        have yl := Hy.out.lt
        simp only [List.getElem?_cons_zero, List.getElem?_cons_succ] at b0 b1 x0 x1 y0 y1
        have yf0 := Hy.out.frozen 0
        have yf1 := Hy.out.frozen 1
        by_cases hlt : k < m ∧ a = 0
        · obtain ⟨hlt, rfl⟩ := hlt
          obtain ⟨_, rfl, hez, hrel⟩ := hrel.resolve_right (fun h => h.1 rfl)
          obtain ⟨f1, f2, f3, f4⟩ := Hfc.out hez
          have hwl : w.heap.size ≤ wr.heap.size := Hbl.out.size
          obtain ⟨b, off, C, A', n', c', rfl, hC, hcell, hrC⟩ := (Hl.out.keep Hbl.out).sl hlt
          have HC := hide hC
          have Hrel := hide hrel
          have hcc := fun W hW => ClauseCode_ct A' n' c' v C W (hrC.qt hW) f1 (by omega)
          have hcv := code_range v none C
          obtain ⟨c9, h9⟩ : ∃ c9, c9 = clauseCode v none C := ⟨_, rfl⟩
          rw [← h9] at hcc hcv
          have Hcc := hide hcc
          have H9 := hide h9
          clear hC hrel hcc h9 f4 f3
          go_wp2_with fail
          go_quiet ((go_at_call 36; exact quiet_call (Hcc.out _ ⟨_, rfl⟩)))
          obtain ⟨wd, hwd⟩ : ∃ wd, wd = wr.drewN nq := ⟨_, rfl⟩
          have hqt : Qt wr wd := by rw [hwd]; exact ⟨nq, rfl⟩
          rw [← hwd]
          replace Hb := hide (Hb.out.qt hqt)
          replace Hx := hide (Hx.out.qt hqt)
          replace Hy := hide (Hy.out.qt hqt)
          replace Hbl := hide (Hbl.out.trans (hqt.below _))
          clear hwd hqt hcell hrC Hcc b0 b1 bl x0 x1 xl y0 y1 yl yf0 yf1
          have b0 := Hb.out.cell 0
          have b1 := Hb.out.cell 1
          have bl := Hb.out.lt
          have x0 := Hx.out.cell 0
          have x1 := Hx.out.cell 1
          have xl := Hx.out.lt
          have y0 := Hy.out.cell 0
          have y1 := Hy.out.cell 1
          have yl := Hy.out.lt
          simp only [List.getElem?_cons_zero, List.getElem?_cons_succ] at b0 b1 x0 x1 y0 y1
          have yf0 := Hy.out.frozen 0
          have yf1 := Hy.out.frozen 1
          by_cases h9 : c9 = 0
          · subst h9
            go_wp2_with fail
            go_roundw
            case rel => exact ⟨k + 1, 0, 0, by omega, by go_num, Hb.out, Hx.out, Hy.out, Hbl.out, .inl ⟨rfl, rfl, hez, by rw [Hrel.out, drop_cons HC.out, faultFrom, if_pos H9.out.symm]⟩⟩
            case measure => simp [intOf]; omega
          · have hne : (c9 != 0) = true := by simpa using h9
            have hrng : -9223372036854775808 ≤ c9 ∧ c9 ≤ 9223372036854775807 := by omega
            clear hcv
            go_wp2_with fail
            refine (At_ct _ _ _).mono ?_
            rintro e w6 ⟨rfl, hb⟩
            unfold fault
            clear b0 b1 x0 x1 y0 y1 bl xl yl
            clear yf0 yf1
            replace Hb := hide (Hb.out.keep hb)
            replace Hx := hide (Hx.out.keep hb)
            replace Hy := hide (Hy.out.keep hb)
            replace Hbl := hide (Hbl.out.trans (hb.mono Hbl.out.size))
            clear hb
            have b0 := Hb.out.cell 0
            have b1 := Hb.out.cell 1
            have bl := Hb.out.lt
            have x0 := Hx.out.cell 0
            have x1 := Hx.out.cell 1
            have xl := Hx.out.lt
            have y0 := Hy.out.cell 0
            have y1 := Hy.out.cell 1
            have yl := Hy.out.lt
            simp only [List.getElem?_cons_zero, List.getElem?_cons_succ] at b0 b1 x0 x1 y0 y1
            have yf0 := Hy.out.frozen 0
            have yf1 := Hy.out.frozen 1
            go_wp2_with fail
            go_roundw
            case rel => exact ⟨k + 1, c9, k, by omega, by go_num, (Hb.out.far (p := ⟨gy, 0, none⟩) (by show gb ≠ gy; omega) _).far (p := ⟨gy, 1, none⟩) (by show gb ≠ gy; omega) _, (Hx.out.far (p := ⟨gy, 0, none⟩) (by show gx ≠ gy; omega) _).far (p := ⟨gy, 1, none⟩) (by show gx ≠ gy; omega) _, (Hy.out.set 0 (.int .i64 c9)).set 1 (.int .i64 k), below_res2 Hbl.out hgy _ _, .inr ⟨h9, by rw [Hrel.out, drop_cons HC.out, faultFrom, if_neg (by rw [← H9.out]; exact h9), ← H9.out]⟩⟩
            case measure => simp [intOf]; omega
        · have hab : wref v cs L = (a, bb) := by
            rcases hrel with ⟨h1, h2, h3, h4⟩ | ⟨_, h2⟩
            · rw [h4, List.drop_of_length_le (by rw [Hlm.out]; omega), faultFrom, h1, h2]
            · exact h2
          have Hab := hide hab
          clear hrel hab
          have hw1 := Hw1.out
          rw [Hab.out] at hw1
          obtain ⟨e1, e2⟩ := Prod.mk.inj hw1
          subst e1 e2
          clear hw1
          by_cases ha : kc = 0
          · have hkm : ¬ k < m := fun h => hlt ⟨h, ha⟩
            clear hlt
            exfalso
            have := Hwz.out
            rw [Hab.out, ha] at this
            exact absurd (Prod.mk.inj this).1 (by decide)
          · clear hlt
            by_cases hkm : k < m
            · skip
              have hkb := Hw2.out (by rw [Hab.out]; exact ha)
              subst hkb
              have hne : (kc != 0) = true := by simpa using ha
              have hne9 : (kc == 0) = false := by simpa using ha
              go_wp2
              go_ret
              exact ⟨rfl, Hbl.out⟩
            · skip
              have hkb := Hw2.out (by rw [Hab.out]; exact ha)
              subst hkb
              have hne : (kc != 0) = true := by simpa using ha
              have hne9 : (kc == 0) = false := by simpa using ha
              go_wp2
              go_ret
              exact ⟨rfl, Hbl.out⟩
    · have hwz : wref v cs L = faultFrom v 0 L := by rw [Hwd.out, if_neg (by simp), if_neg hm]
      have Hwz := hide hwz
      clear hwz
      have hm5 : ¬ ((4000 : Int) < (m : Int)) := by omega
      go_wp2_with fail
      go_loopw [8] (fun i wr => ∃ (k : Nat) (a bb : Int), k ≤ m ∧ i = .int .i64 k ∧ Blk 51 wr gb [.int .i64 v, .slice A n c] ∧ Blk 29 wr gx [.int .i64 kc, .int .i64 ki] ∧ Blk 29 wr gy [.int .i64 a, .int .i64 bb] ∧ Below w.heap.size w wr ∧
        ((a = 0 ∧ bb = 0 ∧ (cnfFault v cs).1 = 0 ∧ wref v cs L = faultFrom v k (L.drop k)) ∨ (a ≠ 0 ∧ wref v cs L = (a, bb)))) (fun i _ => m - (intOf i).toNat)
      case atStart => exact ⟨0, 0, 0, by omega, rfl, Hb.out, Hx.out, Hy.out, Hbl.out, .inl ⟨rfl, rfl, by rw [Hq.out], Hwz.out⟩⟩
      case round =>
        clear Hb Hx Hy Hbl b0 b1 bl x0 x1 xl y0 y1 yl
        obtain ⟨k, a, bb, hk, rfl, hb, hx, hy, hbl, hrel⟩ := hrel
        have Hb := hide hb
        have Hx := hide hx
        have Hy := hide hy
        have Hbl := hide hbl
        clear hb hx hy hbl
        have b0 := Hb.out.cell 0
        have b1 := Hb.out.cell 1
        have bl := Hb.out.lt
        have x0 := Hx.out.cell 0
        have x1 := Hx.out.cell 1
        have xl := Hx.out.lt
        have y0 := Hy.out.cell 0
        have y1 := Hy.out.cell 1
        have yl := Hy.out.lt
        simp only [List.getElem?_cons_zero, List.getElem?_cons_succ] at b0 b1 x0 x1 y0 y1
        have yf0 := Hy.out.frozen 0
        have yf1 := Hy.out.frozen 1
        by_cases hlt : k < m ∧ a = 0
        · obtain ⟨hlt, rfl⟩ := hlt
          obtain ⟨_, rfl, hez, hrel⟩ := hrel.resolve_right (fun h => h.1 rfl)
          obtain ⟨f1, f2, f3, f4⟩ := Hfc.out hez
          have hwl : w.heap.size ≤ wr.heap.size := Hbl.out.size
          obtain ⟨b, off, C, A', n', c', rfl, hC, hcell, hrC⟩ := (Hl.out.keep Hbl.out).sl hlt
          have HC := hide hC
          have Hrel := hide hrel
          have hcc := fun W hW => ClauseCode_ct A' n' c' v C W (hrC.qt hW) f1 (by omega)
          have hcv := code_range v none C
          obtain ⟨c9, h9⟩ : ∃ c9, c9 = clauseCode v none C := ⟨_, rfl⟩
          rw [← h9] at hcc hcv
          have Hcc := hide hcc
          have H9 := hide h9
          clear hC hrel hcc h9 f4 f3
          go_wp2_with fail
          go_quiet ((go_at_call 36; exact quiet_call (Hcc.out _ ⟨_, rfl⟩)))
          obtain ⟨wd, hwd⟩ : ∃ wd, wd = wr.drewN nq := ⟨_, rfl⟩
          have hqt : Qt wr wd := by rw [hwd]; exact ⟨nq, rfl⟩
          rw [← hwd]
          replace Hb := hide (Hb.out.qt hqt)
          replace Hx := hide (Hx.out.qt hqt)
          replace Hy := hide (Hy.out.qt hqt)
          replace Hbl := hide (Hbl.out.trans (hqt.below _))
          clear hwd hqt hcell hrC Hcc b0 b1 bl x0 x1 xl y0 y1 yl yf0 yf1
          have b0 := Hb.out.cell 0
          have b1 := Hb.out.cell 1
          have bl := Hb.out.lt
          have x0 := Hx.out.cell 0
          have x1 := Hx.out.cell 1
          have xl := Hx.out.lt
          have y0 := Hy.out.cell 0
          have y1 := Hy.out.cell 1
          have yl := Hy.out.lt
          simp only [List.getElem?_cons_zero, List.getElem?_cons_succ] at b0 b1 x0 x1 y0 y1
          have yf0 := Hy.out.frozen 0
          have yf1 := Hy.out.frozen 1
          by_cases h9 : c9 = 0
          · subst h9
            go_wp2_with fail
            go_roundw
            case rel => exact ⟨k + 1, 0, 0, by omega, by go_num, Hb.out, Hx.out, Hy.out, Hbl.out, .inl ⟨rfl, rfl, hez, by rw [Hrel.out, drop_cons HC.out, faultFrom, if_pos H9.out.symm]⟩⟩
            case measure => simp [intOf]; omega
          · have hne : (c9 != 0) = true := by simpa using h9
            have hrng : -9223372036854775808 ≤ c9 ∧ c9 ≤ 9223372036854775807 := by omega
            clear hcv
            go_wp2_with fail
            refine (At_ct _ _ _).mono ?_
            rintro e w6 ⟨rfl, hb⟩
            unfold fault
            clear b0 b1 x0 x1 y0 y1 bl xl yl
            clear yf0 yf1
            replace Hb := hide (Hb.out.keep hb)
            replace Hx := hide (Hx.out.keep hb)
            replace Hy := hide (Hy.out.keep hb)
            replace Hbl := hide (Hbl.out.trans (hb.mono Hbl.out.size))
            clear hb
            have b0 := Hb.out.cell 0
            have b1 := Hb.out.cell 1
            have bl := Hb.out.lt
            have x0 := Hx.out.cell 0
            have x1 := Hx.out.cell 1
            have xl := Hx.out.lt
            have y0 := Hy.out.cell 0
            have y1 := Hy.out.cell 1
            have yl := Hy.out.lt
            simp only [List.getElem?_cons_zero, List.getElem?_cons_succ] at b0 b1 x0 x1 y0 y1
            have yf0 := Hy.out.frozen 0
            have yf1 := Hy.out.frozen 1
            go_wp2_with fail
            go_roundw
            case rel => exact ⟨k + 1, c9, k, by omega, by go_num, (Hb.out.far (p := ⟨gy, 0, none⟩) (by show gb ≠ gy; omega) _).far (p := ⟨gy, 1, none⟩) (by show gb ≠ gy; omega) _, (Hx.out.far (p := ⟨gy, 0, none⟩) (by show gx ≠ gy; omega) _).far (p := ⟨gy, 1, none⟩) (by show gx ≠ gy; omega) _, (Hy.out.set 0 (.int .i64 c9)).set 1 (.int .i64 k), below_res2 Hbl.out hgy _ _, .inr ⟨h9, by rw [Hrel.out, drop_cons HC.out, faultFrom, if_neg (by rw [← H9.out]; exact h9), ← H9.out]⟩⟩
            case measure => simp [intOf]; omega
        · have hab : wref v cs L = (a, bb) := by
            rcases hrel with ⟨h1, h2, h3, h4⟩ | ⟨_, h2⟩
            · rw [h4, List.drop_of_length_le (by rw [Hlm.out]; omega), faultFrom, h1, h2]
            · exact h2
          have Hab := hide hab
          clear hrel hab
          have hw1 := Hw1.out
          rw [Hab.out] at hw1
          obtain ⟨e1, e2⟩ := Prod.mk.inj hw1
          subst e1 e2
          clear hw1
          by_cases ha : kc = 0
          · have hkm : ¬ k < m := fun h => hlt ⟨h, ha⟩
            clear hlt
            have hk3 := Hw3.out (by rw [Hab.out]; exact ha)
            obtain ⟨e1, e2⟩ := Prod.mk.inj hk3
            obtain ⟨e2, e3⟩ := Prod.mk.inj e2
            have Hkb := hide e1
            have hez : (cnfFault v cs).1 = 0 := Decidable.byContradiction fun h => by
              have := Hwd2.out
              rw [if_pos h, Hab.out] at this
              exact h (by rw [← this]; exact ha)
            obtain ⟨f1, f2, f3, f4⟩ := Hfc.out hez
            obtain ⟨V, rfl⟩ : ∃ V : Nat, v = (V : Int) := ⟨v.toNat, by omega⟩
            rw [Int.toNat_natCast] at f4 Hkb
            have hLc : ∀ C ∈ L, Clean V C := fun C hC => by
              have := Hr.out
              rw [ha] at this
              have := (checkR_ok (v := (V : Int)) (cs := cs) (L := L) (by rw [this])).2.1 C hC
              exact clean_of_code this
            subst e2 e3
            have hcr := check_ref f4 hLc
            have Hkb2 := hide (Hkb.out.trans hcr)
            have Hcl := hide f4
            have HLc := hide hLc
            have hn : n ≤ 1500 := by rw [H.out.len] at f3; exact f3
            clear hk3 ha f1 f3 f4 hLc hcr hez
            by_cases h60 : 60 < m
            · go_wp2
              go_ret
              exact ⟨rfl, Hbl.out⟩
            by_cases hcon : 4000 < m
            · exfalso
              omega
            · go_wp2_with fail
              have hst := Refutes_ct V A n c cs B m d L _ (by omega) (H.out.keep Hbl.out) (by omega) (Hl.out.keep Hbl.out) (by omega) Hcl.out HLc.out
              rw [← Hkb2.out] at hst
              refine hst.mono ?_
              rintro e w8 ⟨rfl, hb⟩
              replace Hbl := hide (Hbl.out.trans (hb.mono Hbl.out.size))
              clear hst hb
              go_wp2
              go_ret
              exact ⟨by simp, Hbl.out⟩
          · clear hlt
            by_cases hkm : k < m
            · skip
              have hkb := Hw2.out (by rw [Hab.out]; exact ha)
              subst hkb
              have hne : (kc != 0) = true := by simpa using ha
              have hne9 : (kc == 0) = false := by simpa using ha
              go_wp2
              go_ret
              exact ⟨rfl, Hbl.out⟩
            · skip
              have hkb := Hw2.out (by rw [Hab.out]; exact ha)
              subst hkb
              have hne : (kc != 0) = true := by simpa using ha
              have hne9 : (kc == 0) = false := by simpa using ha
              go_wp2
              go_ret
              exact ⟨rfl, Hbl.out⟩
  · have hwz : wref v cs L = (ec, ei) := by rw [Hwd.out, if_pos hec]
    have Hwz := hide hwz
    clear hwz
    have hne0 : (ec == 0) = false := by simpa using hec
    go_wp2_with fail
    go_loopw [8] (fun i wr => ∃ (k : Nat) (a bb : Int), k ≤ m ∧ i = .int .i64 k ∧ Blk 51 wr gb [.int .i64 v, .slice A n c] ∧ Blk 29 wr gx [.int .i64 kc, .int .i64 ki] ∧ Blk 29 wr gy [.int .i64 a, .int .i64 bb] ∧ Below w.heap.size w wr ∧
      ((a = 0 ∧ bb = 0 ∧ (cnfFault v cs).1 = 0 ∧ wref v cs L = faultFrom v k (L.drop k)) ∨ (a ≠ 0 ∧ wref v cs L = (a, bb)))) (fun i _ => m - (intOf i).toNat)
    case atStart => exact ⟨0, ec, ei, by omega, rfl, Hb.out, Hx.out, Hy.out, Hbl.out, .inr ⟨hec, Hwz.out⟩⟩
    case round =>
      clear Hb Hx Hy Hbl b0 b1 bl x0 x1 xl y0 y1 yl
      obtain ⟨k, a, bb, hk, rfl, hb, hx, hy, hbl, hrel⟩ := hrel
      have Hb := hide hb
      have Hx := hide hx
      have Hy := hide hy
      have Hbl := hide hbl
      clear hb hx hy hbl
      have b0 := Hb.out.cell 0
      have b1 := Hb.out.cell 1
      have bl := Hb.out.lt
      have x0 := Hx.out.cell 0
      have x1 := Hx.out.cell 1
      have xl := Hx.out.lt
      have y0 := Hy.out.cell 0
      have y1 := Hy.out.cell 1
      have yl := Hy.out.lt
      simp only [List.getElem?_cons_zero, List.getElem?_cons_succ] at b0 b1 x0 x1 y0 y1
      have yf0 := Hy.out.frozen 0
      have yf1 := Hy.out.frozen 1
      by_cases hlt : k < m ∧ a = 0
      · obtain ⟨hlt, rfl⟩ := hlt
        obtain ⟨_, rfl, hez, hrel⟩ := hrel.resolve_right (fun h => h.1 rfl)
        obtain ⟨f1, f2, f3, f4⟩ := Hfc.out hez
        have hwl : w.heap.size ≤ wr.heap.size := Hbl.out.size
        obtain ⟨b, off, C, A', n', c', rfl, hC, hcell, hrC⟩ := (Hl.out.keep Hbl.out).sl hlt
        have HC := hide hC
        have Hrel := hide hrel
        have hcc := fun W hW => ClauseCode_ct A' n' c' v C W (hrC.qt hW) f1 (by omega)
        have hcv := code_range v none C
        obtain ⟨c9, h9⟩ : ∃ c9, c9 = clauseCode v none C := ⟨_, rfl⟩
        rw [← h9] at hcc hcv
        have Hcc := hide hcc
        have H9 := hide h9
        clear hC hrel hcc h9 f4 f3
        go_wp2_with fail
        go_quiet ((go_at_call 36; exact quiet_call (Hcc.out _ ⟨_, rfl⟩)))
        obtain ⟨wd, hwd⟩ : ∃ wd, wd = wr.drewN nq := ⟨_, rfl⟩
        have hqt : Qt wr wd := by rw [hwd]; exact ⟨nq, rfl⟩
        rw [← hwd]
        replace Hb := hide (Hb.out.qt hqt)
        replace Hx := hide (Hx.out.qt hqt)
        replace Hy := hide (Hy.out.qt hqt)
        replace Hbl := hide (Hbl.out.trans (hqt.below _))
        clear hwd hqt hcell hrC Hcc b0 b1 bl x0 x1 xl y0 y1 yl yf0 yf1
        have b0 := Hb.out.cell 0
        have b1 := Hb.out.cell 1
        have bl := Hb.out.lt
        have x0 := Hx.out.cell 0
        have x1 := Hx.out.cell 1
        have xl := Hx.out.lt
        have y0 := Hy.out.cell 0
        have y1 := Hy.out.cell 1
        have yl := Hy.out.lt
        simp only [List.getElem?_cons_zero, List.getElem?_cons_succ] at b0 b1 x0 x1 y0 y1
        have yf0 := Hy.out.frozen 0
        have yf1 := Hy.out.frozen 1
        by_cases h9 : c9 = 0
        · subst h9
          go_wp2_with fail
          go_roundw
          case rel => exact ⟨k + 1, 0, 0, by omega, by go_num, Hb.out, Hx.out, Hy.out, Hbl.out, .inl ⟨rfl, rfl, hez, by rw [Hrel.out, drop_cons HC.out, faultFrom, if_pos H9.out.symm]⟩⟩
          case measure => simp [intOf]; omega
        · have hne : (c9 != 0) = true := by simpa using h9
          have hrng : -9223372036854775808 ≤ c9 ∧ c9 ≤ 9223372036854775807 := by omega
          clear hcv
          go_wp2_with fail
          refine (At_ct _ _ _).mono ?_
          rintro e w6 ⟨rfl, hb⟩
          unfold fault
          clear b0 b1 x0 x1 y0 y1 bl xl yl
          clear yf0 yf1
          replace Hb := hide (Hb.out.keep hb)
          replace Hx := hide (Hx.out.keep hb)
          replace Hy := hide (Hy.out.keep hb)
          replace Hbl := hide (Hbl.out.trans (hb.mono Hbl.out.size))
          clear hb
          have b0 := Hb.out.cell 0
          have b1 := Hb.out.cell 1
          have bl := Hb.out.lt
          have x0 := Hx.out.cell 0
          have x1 := Hx.out.cell 1
          have xl := Hx.out.lt
          have y0 := Hy.out.cell 0
          have y1 := Hy.out.cell 1
          have yl := Hy.out.lt
          simp only [List.getElem?_cons_zero, List.getElem?_cons_succ] at b0 b1 x0 x1 y0 y1
          have yf0 := Hy.out.frozen 0
          have yf1 := Hy.out.frozen 1
          go_wp2_with fail
          go_roundw
          case rel => exact ⟨k + 1, c9, k, by omega, by go_num, (Hb.out.far (p := ⟨gy, 0, none⟩) (by show gb ≠ gy; omega) _).far (p := ⟨gy, 1, none⟩) (by show gb ≠ gy; omega) _, (Hx.out.far (p := ⟨gy, 0, none⟩) (by show gx ≠ gy; omega) _).far (p := ⟨gy, 1, none⟩) (by show gx ≠ gy; omega) _, (Hy.out.set 0 (.int .i64 c9)).set 1 (.int .i64 k), below_res2 Hbl.out hgy _ _, .inr ⟨h9, by rw [Hrel.out, drop_cons HC.out, faultFrom, if_neg (by rw [← H9.out]; exact h9), ← H9.out]⟩⟩
          case measure => simp [intOf]; omega
      · have hab : wref v cs L = (a, bb) := by
          rcases hrel with ⟨h1, h2, h3, h4⟩ | ⟨_, h2⟩
          · rw [h4, List.drop_of_length_le (by rw [Hlm.out]; omega), faultFrom, h1, h2]
          · exact h2
        have Hab := hide hab
        clear hrel hab
        have hw1 := Hw1.out
        rw [Hab.out] at hw1
        obtain ⟨e1, e2⟩ := Prod.mk.inj hw1
        subst e1 e2
        clear hw1
        by_cases ha : kc = 0
        · have hkm : ¬ k < m := fun h => hlt ⟨h, ha⟩
          clear hlt
          exfalso
          have := Hwz.out
          rw [Hab.out, ha] at this
          exact hec (Prod.mk.inj this).1.symm
        · clear hlt
          by_cases hkm : k < m
          · skip
            have hkb := Hw2.out (by rw [Hab.out]; exact ha)
            subst hkb
            have hne : (kc != 0) = true := by simpa using ha
            have hne9 : (kc == 0) = false := by simpa using ha
            go_wp2
            go_ret
            exact ⟨rfl, Hbl.out⟩
          · skip
            have hkb := Hw2.out (by rw [Hab.out]; exact ha)
            subst hkb
            have hne : (kc != 0) = true := by simpa using ha
            have hne9 : (kc == 0) = false := by simpa using ha
            go_wp2
            go_ret
            exact ⟨rfl, Hbl.out⟩
end Go.Proofs.Ytnfeknfakkdbhaa
