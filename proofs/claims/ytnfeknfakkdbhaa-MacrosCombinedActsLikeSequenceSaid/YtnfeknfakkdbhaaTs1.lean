/- Faults of a state and of a plan, a step, by the package strips. -/
import Derived.Test.YtnfeknfakkdbhaaSt
import Derived.Test.YtnfeknfakkdbhaaTk5
import Derived.Test.YtnfeknfakkdbhaaEr
namespace Go.Proofs.Ytnfeknfakkdbhaa
set_option linter.unusedVariables false
set_option linter.unusedSimpArgs false
open Go.RowKit

def stateFault (T : Tsk) (s : List Int) : Int × Int := if (taskFault T).1 ≠ 0 then taskFault T else if setB T.facts s = false then (5, -4) else (0, 0)
def planFault (T : Tsk) (l : List Int) : Int × Int := if (taskFault T).1 ≠ 0 then taskFault T else stepsFault T.ops.length l
theorem stateFault_ok {T : Tsk} {s : List Int} (h : (stateFault T s).1 = 0) : stateFault T s = (0, 0) ∧ (taskFault T).1 = 0 ∧ setB T.facts s = true := by
  unfold stateFault at h ⊢
  split
  · rename_i e
    rw [if_pos e] at h
    exact absurd h e
  · rename_i e
    rw [if_neg e] at h
    split
    · rename_i e2
      rw [if_pos e2] at h
      cases h
    · rename_i e2
      exact ⟨rfl, by simpa using e, by simpa using e2⟩
theorem planFault_ok {T : Tsk} {l : List Int} (h : (planFault T l).1 = 0) : planFault T l = (0, 0) ∧ (taskFault T).1 = 0 ∧ l.length ≤ 60 ∧ ∀ x ∈ l, 0 ≤ x ∧ x < T.ops.length := by
  unfold planFault at h ⊢
  split
  · rename_i e
    rw [if_pos e] at h
    exact absurd h e
  · rename_i e
    rw [if_neg e] at h
    obtain ⟨h1, h2, h3⟩ := steps_ok h
    exact ⟨h1, by simpa using e, h2, h3⟩
def taskA (T : Tsk) (a : TA) : Value := .agg #[.int .i64 T.facts, .slice a.I a.nI a.cI, .slice a.G a.nG a.cG, .slice a.O a.nO a.cO]
set_option maxRecDepth 100000 in
set_option maxHeartbeats 3200000 in
theorem StateFault_ct (a : TA) (T : Tsk) (B : Option Addr) (m d : Nat) (l : List Int) (w : World) (h : TkR w a T) (hl : Rd Enc.int w B m d l) :
    Calls Try.prog 80 #[.agg #[.int .i64 T.facts, .slice a.I a.nI a.cI, .slice a.G a.nG a.cG, .slice a.O a.nO a.cO], .slice B m d] w (Gives w (fault (stateFault T l).1 (stateFault T l).2)) := by
  obtain ⟨I, nI, cI, G, nG, cG, O, nO, cO⟩ := a
  have hval := SValidate_ct ⟨I, nI, cI, G, nG, cG, O, nO, cO⟩ T
  simp only at hval ⊢
  rcases hq : taskFault T with ⟨ec, ei⟩
  rw [hq] at hval
  have hlO := h.ops.len
  simp only at hlO
  have Hq := hide hq
  have HlO := hide hlO
  have H := hide h
  have Hl := hide hl
  have Hval := hide hval
  clear hq h hl hval hlO
  have Hbl := hide (Below.refl w.heap.size w)
  go_enter Try.func80, Try.ntmps80
  go_upto_region 1 with (fail)
  obtain ⟨B0, hB0⟩ : ∃ B0, B0 = w.heap.size := ⟨_, rfl⟩
  have HB0 := hide hB0
  clear hB0
  have s_0 : B0 ≤ w.heap.size := Nat.le_trans (Nat.le_of_eq HB0.out) Hbl.out.size
  have hyt := Blk.new (w) 25 [.int .i64 T.facts, .slice I nI cI, .slice G nG cG, .slice O nO cO]
  have hyr := Blk.new ((w).alloc (.cells #[.int .i64 T.facts, .slice I nI cI, .slice G nG cG, .slice O nO cO] 25)) 29 [.int .i64 0, .int .i64 0]
  replace hyt := hyt.alloc (.cells #[.int .i64 0, .int .i64 0] 29)
  have hbW := below_two w (.cells #[.int .i64 T.facts, .slice I nI cI, .slice G nG cG, .slice O nO cO] 25) (.cells #[.int .i64 0, .int .i64 0] 29)
  simp only [World.size_alloc] at hyr
  obtain ⟨w0, hW⟩ : ∃ W, W = ((w).alloc (.cells #[.int .i64 T.facts, .slice I nI cI, .slice G nG cG, .slice O nO cO] 25)).alloc (.cells #[.int .i64 0, .int .i64 0] 29) := ⟨_, rfl⟩
  rw [← hW] at hyt hyr hbW ⊢
  replace Hbl := hide (Hbl.out.trans (hbW.mono Hbl.out.size))
  have Ht := hide hyt
  have Hr := hide hyr
  clear hW hbW hyt hyr
  generalize w.heap.size = gT at Ht Hr s_0 ⊢
  have t0 := Ht.out.cell 0
  have t1 := Ht.out.cell 1
  have t2 := Ht.out.cell 2
  have t3 := Ht.out.cell 3
  have tl := Ht.out.lt
  have r0 := Hr.out.cell 0
  have r1 := Hr.out.cell 1
  have rl := Hr.out.lt
  simp only [List.getElem?_cons_zero, List.getElem?_cons_succ] at t0 t1 t2 t3 r0 r1
  have a_t : B0 ≤ gT := by omega
  have a_r : B0 ≤ gT + 1 := by omega
  clear s_0
  have n_t_r : ¬ gT = gT + 1 := by omega
  have n_r_t : ¬ gT + 1 = gT := by omega
  go_wp2_with fail
  with_reducible refine (Hval.out w0 (H.out.keep Hbl.out)).mono ?_
  rintro e w1 ⟨rfl, hb⟩
  clear t0 t1 t2 t3 r0 r1 tl rl
  replace Ht := hide (Ht.out.keep hb)
  replace Hr := hide (Hr.out.keep hb)
  replace Hbl := hide (Hbl.out.trans (hb.mono Hbl.out.size))
  clear hb
  unfold fault
  have t0 := Ht.out.cell 0
  have t1 := Ht.out.cell 1
  have t2 := Ht.out.cell 2
  have t3 := Ht.out.cell 3
  have tl := Ht.out.lt
  have r0 := Hr.out.cell 0
  have r1 := Hr.out.cell 1
  have rl := Hr.out.lt
  simp only [List.getElem?_cons_zero, List.getElem?_cons_succ] at t0 t1 t2 t3 r0 r1
  have rf0 := Hr.out.frozen 0
  have rf1 := Hr.out.frozen 1
  go_upto_region 2 with (fail)
  clear rf0 rf1
  have n_t_p : ¬ gT = w1.heap.size := by omega
  have n_p_t : ¬ w1.heap.size = gT := by omega
  have n_r_p : ¬ gT + 1 = w1.heap.size := by omega
  have n_p_r : ¬ w1.heap.size = gT + 1 := by omega
  have s_t : gT < w1.heap.size := tl
  have s_r : gT + 1 < w1.heap.size := rl
  have s_0 : B0 ≤ w1.heap.size := Nat.le_trans (Nat.le_of_eq HB0.out) Hbl.out.size
  have hyp := Blk.new (w1) 29 [.int .i64 ec, .int .i64 ei]
  have hbW : Below (w1).heap.size (w1) ((w1).alloc (.cells #[.int .i64 ec, .int .i64 ei] 29)) := (Below.refl _ _).alloc (Nat.le_refl _) _
  obtain ⟨w2, hW⟩ : ∃ W, W = (w1).alloc (.cells #[.int .i64 ec, .int .i64 ei] 29) := ⟨_, rfl⟩
  rw [← hW] at hyp hbW ⊢
  replace Ht := hide (Ht.out.keep hbW)
  replace Hr := hide (Hr.out.keep hbW)
  replace Hbl := hide (Hbl.out.trans (hbW.mono Hbl.out.size))
  have Hp := hide hyp
  clear hW hbW hyp
  generalize w1.heap.size = gp at Hp n_t_p n_p_t n_r_p n_p_r s_t s_r s_0 ⊢
  have t0 := Ht.out.cell 0
  have t1 := Ht.out.cell 1
  have t2 := Ht.out.cell 2
  have t3 := Ht.out.cell 3
  have tl := Ht.out.lt
  have r0 := Hr.out.cell 0
  have r1 := Hr.out.cell 1
  have rl := Hr.out.lt
  have p0 := Hp.out.cell 0
  have p1 := Hp.out.cell 1
  have pl := Hp.out.lt
  simp only [List.getElem?_cons_zero, List.getElem?_cons_succ] at t0 t1 t2 t3 r0 r1 p0 p1
  clear s_t
  clear s_r
  have a_p : B0 ≤ gp := by omega
  clear s_0
  by_cases hec : ec = 0
  · subst hec
    have hz := taskFault_zero (T := T) (by rw [Hq.out])
    rw [Hq.out] at hz
    obtain ⟨_, e2⟩ := Prod.mk.inj hz
    subst e2
    clear hz
    have hct := SIsSet_ct B m d l T.facts w2 (Hl.out.keep Hbl.out)
    cases hs : setB T.facts l
    · skip
      rw [hs] at hct
      have Hs := hide hs
      clear hs
      go_wp2_with fail
      with_reducible refine hct.mono ?_
      rintro e w3 ⟨rfl, rfl⟩
      clear hct
      have rf0 := Hr.out.frozen 0
      have rf1 := Hr.out.frozen 1
      go_wp2_with fail
      exact bodyPost_ret (v := fault 5 (-4)) (by simp [results, Try.results80, go_sem, fault, r0, r1, rl]) rfl ⟨by unfold stateFault; rw [Hq.out, if_neg (by simp), if_pos Hs.out], by
        repeat' (first | (with_reducible exact Hbl.out) | (with_reducible refine Below.drew ?_) | (with_reducible refine below_set ?_ ?_ _ _) | (have := HB0.out; omega))⟩
    · skip
      rw [hs] at hct
      have Hs := hide hs
      clear hs
      go_wp2_with fail
      with_reducible refine hct.mono ?_
      rintro e w3 ⟨rfl, rfl⟩
      clear hct
      have rf0 := Hr.out.frozen 0
      have rf1 := Hr.out.frozen 1
      go_wp2_with fail
      exact bodyPost_ret (v := fault 0 0) (by simp [results, Try.results80, go_sem, fault, r0, r1, rl]) rfl ⟨by unfold stateFault; rw [Hq.out, if_neg (by simp), if_neg (by simp [Hs.out])], by
        repeat' (first | (with_reducible exact Hbl.out) | (with_reducible refine Below.drew ?_) | (with_reducible refine below_set ?_ ?_ _ _) | (have := HB0.out; omega))⟩
  · have hne : (ec != 0) = true := by simpa using hec
    have rf0 := Hr.out.frozen 0
    have rf1 := Hr.out.frozen 1
    go_wp2_with fail
    exact bodyPost_ret (v := fault ec ei) (by simp [results, Try.results80, go_sem, fault, r0, r1, rl]) rfl ⟨by unfold stateFault; rw [Hq.out, if_pos hec], by
      repeat' (first | (with_reducible exact Hbl.out) | (with_reducible refine Below.drew ?_) | (with_reducible refine below_set ?_ ?_ _ _) | (have := HB0.out; omega))⟩
set_option maxRecDepth 100000 in
set_option maxHeartbeats 3200000 in
theorem SPlanFault_ct (a : TA) (T : Tsk) (B : Option Addr) (m d : Nat) (l : List Int) (w : World) (h : TkR w a T) (hl : Rd Enc.int w B m d l) :
    Calls Try.prog 77 #[.agg #[.int .i64 T.facts, .slice a.I a.nI a.cI, .slice a.G a.nG a.cG, .slice a.O a.nO a.cO], .slice B m d] w (Gives w (fault (planFault T l).1 (planFault T l).2)) := by
  obtain ⟨I, nI, cI, G, nG, cG, O, nO, cO⟩ := a
  have hval := SValidate_ct ⟨I, nI, cI, G, nG, cG, O, nO, cO⟩ T
  simp only at hval ⊢
  rcases hq : taskFault T with ⟨ec, ei⟩
  rw [hq] at hval
  have hlO := h.ops.len
  simp only at hlO
  have Hq := hide hq
  have HlO := hide hlO
  have H := hide h
  have Hl := hide hl
  have Hval := hide hval
  clear hq h hl hval hlO
  have Hbl := hide (Below.refl w.heap.size w)
  go_enter Try.func77, Try.ntmps77
  go_upto_region 1 with (fail)
  obtain ⟨B0, hB0⟩ : ∃ B0, B0 = w.heap.size := ⟨_, rfl⟩
  have HB0 := hide hB0
  clear hB0
  have s_0 : B0 ≤ w.heap.size := Nat.le_trans (Nat.le_of_eq HB0.out) Hbl.out.size
  have hyt := Blk.new (w) 25 [.int .i64 T.facts, .slice I nI cI, .slice G nG cG, .slice O nO cO]
  have hyr := Blk.new ((w).alloc (.cells #[.int .i64 T.facts, .slice I nI cI, .slice G nG cG, .slice O nO cO] 25)) 29 [.int .i64 0, .int .i64 0]
  replace hyt := hyt.alloc (.cells #[.int .i64 0, .int .i64 0] 29)
  have hbW := below_two w (.cells #[.int .i64 T.facts, .slice I nI cI, .slice G nG cG, .slice O nO cO] 25) (.cells #[.int .i64 0, .int .i64 0] 29)
  simp only [World.size_alloc] at hyr
  obtain ⟨w0, hW⟩ : ∃ W, W = ((w).alloc (.cells #[.int .i64 T.facts, .slice I nI cI, .slice G nG cG, .slice O nO cO] 25)).alloc (.cells #[.int .i64 0, .int .i64 0] 29) := ⟨_, rfl⟩
  rw [← hW] at hyt hyr hbW ⊢
  replace Hbl := hide (Hbl.out.trans (hbW.mono Hbl.out.size))
  have Ht := hide hyt
  have Hr := hide hyr
  clear hW hbW hyt hyr
  generalize w.heap.size = gT at Ht Hr s_0 ⊢
  have t0 := Ht.out.cell 0
  have t1 := Ht.out.cell 1
  have t2 := Ht.out.cell 2
  have t3 := Ht.out.cell 3
  have tl := Ht.out.lt
  have r0 := Hr.out.cell 0
  have r1 := Hr.out.cell 1
  have rl := Hr.out.lt
  simp only [List.getElem?_cons_zero, List.getElem?_cons_succ] at t0 t1 t2 t3 r0 r1
  have a_t : B0 ≤ gT := by omega
  have a_r : B0 ≤ gT + 1 := by omega
  clear s_0
  have n_t_r : ¬ gT = gT + 1 := by omega
  have n_r_t : ¬ gT + 1 = gT := by omega
  go_wp2_with fail
  with_reducible refine (Hval.out w0 (H.out.keep Hbl.out)).mono ?_
  rintro e w1 ⟨rfl, hb⟩
  clear t0 t1 t2 t3 r0 r1 tl rl
  replace Ht := hide (Ht.out.keep hb)
  replace Hr := hide (Hr.out.keep hb)
  replace Hbl := hide (Hbl.out.trans (hb.mono Hbl.out.size))
  clear hb
  unfold fault
  have t0 := Ht.out.cell 0
  have t1 := Ht.out.cell 1
  have t2 := Ht.out.cell 2
  have t3 := Ht.out.cell 3
  have tl := Ht.out.lt
  have r0 := Hr.out.cell 0
  have r1 := Hr.out.cell 1
  have rl := Hr.out.lt
  simp only [List.getElem?_cons_zero, List.getElem?_cons_succ] at t0 t1 t2 t3 r0 r1
  have rf0 := Hr.out.frozen 0
  have rf1 := Hr.out.frozen 1
  go_upto_region 2 with (fail)
  clear rf0 rf1
  have n_t_p : ¬ gT = w1.heap.size := by omega
  have n_p_t : ¬ w1.heap.size = gT := by omega
  have n_r_p : ¬ gT + 1 = w1.heap.size := by omega
  have n_p_r : ¬ w1.heap.size = gT + 1 := by omega
  have s_t : gT < w1.heap.size := tl
  have s_r : gT + 1 < w1.heap.size := rl
  have s_0 : B0 ≤ w1.heap.size := Nat.le_trans (Nat.le_of_eq HB0.out) Hbl.out.size
  have hyp := Blk.new (w1) 29 [.int .i64 ec, .int .i64 ei]
  have hbW : Below (w1).heap.size (w1) ((w1).alloc (.cells #[.int .i64 ec, .int .i64 ei] 29)) := (Below.refl _ _).alloc (Nat.le_refl _) _
  obtain ⟨w2, hW⟩ : ∃ W, W = (w1).alloc (.cells #[.int .i64 ec, .int .i64 ei] 29) := ⟨_, rfl⟩
  rw [← hW] at hyp hbW ⊢
  replace Ht := hide (Ht.out.keep hbW)
  replace Hr := hide (Hr.out.keep hbW)
  replace Hbl := hide (Hbl.out.trans (hbW.mono Hbl.out.size))
  have Hp := hide hyp
  clear hW hbW hyp
  generalize w1.heap.size = gp at Hp n_t_p n_p_t n_r_p n_p_r s_t s_r s_0 ⊢
  have t0 := Ht.out.cell 0
  have t1 := Ht.out.cell 1
  have t2 := Ht.out.cell 2
  have t3 := Ht.out.cell 3
  have tl := Ht.out.lt
  have r0 := Hr.out.cell 0
  have r1 := Hr.out.cell 1
  have rl := Hr.out.lt
  have p0 := Hp.out.cell 0
  have p1 := Hp.out.cell 1
  have pl := Hp.out.lt
  simp only [List.getElem?_cons_zero, List.getElem?_cons_succ] at t0 t1 t2 t3 r0 r1 p0 p1
  clear s_t
  clear s_r
  have a_p : B0 ≤ gp := by omega
  clear s_0
  by_cases hec : ec = 0
  · subst hec
    have hz := taskFault_zero (T := T) (by rw [Hq.out])
    rw [Hq.out] at hz
    obtain ⟨_, e2⟩ := Prod.mk.inj hz
    subst e2
    clear hz
    have hlow := H.out.ops.low
    simp only at hlow
    have hct := Steps_ct nO B m d l w2 (Hl.out.keep Hbl.out) hlow
    rw [← HlO.out] at hct
    obtain ⟨sc, si, hsf⟩ : ∃ sc si, stepsFault T.ops.length l = (sc, si) := ⟨_, _, rfl⟩
    rw [hsf] at hct
    have Hs := hide hsf
    rw [HlO.out] at hct
    clear hsf
    go_wp2_with fail
    with_reducible refine (hct).mono ?_
    rintro e w3 ⟨rfl, hb⟩
    clear t0 t1 t2 t3 r0 r1 p0 p1 tl rl pl
    replace Ht := hide (Ht.out.keep hb)
    replace Hr := hide (Hr.out.keep hb)
    replace Hp := hide (Hp.out.keep hb)
    replace Hbl := hide (Hbl.out.trans (hb.mono Hbl.out.size))
    clear hb
    clear hct
    unfold fault
    have t0 := Ht.out.cell 0
    have t1 := Ht.out.cell 1
    have t2 := Ht.out.cell 2
    have t3 := Ht.out.cell 3
    have tl := Ht.out.lt
    have r0 := Hr.out.cell 0
    have r1 := Hr.out.cell 1
    have rl := Hr.out.lt
    have p0 := Hp.out.cell 0
    have p1 := Hp.out.cell 1
    have pl := Hp.out.lt
    simp only [List.getElem?_cons_zero, List.getElem?_cons_succ] at t0 t1 t2 t3 r0 r1 p0 p1
    have rf0 := Hr.out.frozen 0
    have rf1 := Hr.out.frozen 1
    go_wp2_with fail
    exact bodyPost_ret (v := fault sc si) (by simp [results, Try.results77, go_sem, fault, r0, r1, rl]) rfl ⟨by unfold planFault; rw [Hq.out, if_neg (by simp), Hs.out], by
      repeat' (first | (with_reducible exact Hbl.out) | (with_reducible refine Below.drew ?_) | (with_reducible refine below_set ?_ ?_ _ _) | (have := HB0.out; omega))⟩
  · have hne : (ec != 0) = true := by simpa using hec
    have rf0 := Hr.out.frozen 0
    have rf1 := Hr.out.frozen 1
    go_wp2_with fail
    exact bodyPost_ret (v := fault ec ei) (by simp [results, Try.results77, go_sem, fault, r0, r1, rl]) rfl ⟨by unfold planFault; rw [Hq.out, if_pos hec], by
      repeat' (first | (with_reducible exact Hbl.out) | (with_reducible refine Below.drew ?_) | (with_reducible refine below_set ?_ ?_ _ _) | (have := HB0.out; omega))⟩
set_option maxRecDepth 100000 in
set_option maxHeartbeats 3200000 in
theorem Can_ct (a : TA) (T : Tsk) (N : Nat) (B : Option Addr) (m d : Nat) (l : List Int) (q : Nat) (w : World) (h : TkR w a T) (hl : Rd Enc.int w B m d l) (hos : ∀ o ∈ T.ops, setB N o.pre = true ∧ setB N o.add = true ∧ setB N o.del = true) (hN : N ≤ 1000) (hs : setB N l = true) (hq : q < a.nO) :
    Calls Try.prog 82 #[.agg #[.int .i64 T.facts, .slice a.I a.nI a.cI, .slice a.G a.nG a.cG, .slice a.O a.nO a.cO], .slice B m d, .int .i64 q] w (Gives w (.bool (subsetB (opAt T.ops q).pre l))) := by
  obtain ⟨I, nI, cI, G, nG, cG, O, nO, cO⟩ := a
  simp only at hq ⊢
  have H := hide h
  have Hl := hide hl
  obtain ⟨b1, off1, o, A1, n1, d1, A2, n2, d2, A3, n3, d3, rfl, hoq, g0, g1, g2, g3, r1, r2, r3, r4⟩ := h.ops.op hq
  have hb1 : b1 < w.heap.size := World.block_lt_of_cell? w _ g0
  have hgo := opAt_eq hoq
  have hok := hos o (List.mem_of_getElem? hoq)
  have hlow := h.ops.low
  simp only at hlow
  have hl1 := r1.low
  have hl2 := r2.low
  have hl3 := r3.low
  have q1 := setB_len hok.1
  have q2 := setB_len hok.2.1
  have q3 := setB_len hok.2.2
  rw [r1.len] at q1
  rw [r2.len] at q2
  rw [r3.len] at q3
  have Hgo := hide hgo
  have Hok := hide hok
  have R1 := hide r1
  have R2 := hide r2
  have R3_ := hide r3
  have K0 := hide g0
  have K1 := hide g1
  have K2 := hide g2
  have K3 := hide g3
  clear h hl hos hoq r1 r2 r3 r4 g0 g1 g2 g3 hok hgo
  have Hbl := hide (Below.refl w.heap.size w)
  go_enter Try.func82, Try.ntmps82
  go_upto_region 1 with (fail)
  obtain ⟨B0, hB0⟩ : ∃ B0, B0 = w.heap.size := ⟨_, rfl⟩
  have HB0 := hide hB0
  clear hB0
  have s_0 : B0 ≤ w.heap.size := Nat.le_trans (Nat.le_of_eq HB0.out) Hbl.out.size
  have hyt := Blk.new (w) 25 [.int .i64 T.facts, .slice I nI cI, .slice G nG cG, .slice (some ⟨b1, off1, none⟩) nO cO]
  have hbW : Below (w).heap.size (w) ((w).alloc (.cells #[.int .i64 T.facts, .slice I nI cI, .slice G nG cG, .slice (some ⟨b1, off1, none⟩) nO cO] 25)) := (Below.refl _ _).alloc (Nat.le_refl _) _
  obtain ⟨w0, hW⟩ : ∃ W, W = (w).alloc (.cells #[.int .i64 T.facts, .slice I nI cI, .slice G nG cG, .slice (some ⟨b1, off1, none⟩) nO cO] 25) := ⟨_, rfl⟩
  rw [← hW] at hyt hbW ⊢
  replace Hbl := hide (Hbl.out.trans (hbW.mono Hbl.out.size))
  have Ht := hide hyt
  clear hW hbW hyt
  generalize w.heap.size = gT at Ht s_0 ⊢
  have t0 := Ht.out.cell 0
  have t1 := Ht.out.cell 1
  have t2 := Ht.out.cell 2
  have t3 := Ht.out.cell 3
  have tl := Ht.out.lt
  simp only [List.getElem?_cons_zero, List.getElem?_cons_succ] at t0 t1 t2 t3
  have a_t : B0 ≤ gT := by omega
  clear s_0
  have k0 := ((olds Hbl.out).1 _ _ hb1).trans K0.out
  have k1 := ((olds Hbl.out).1 _ _ hb1).trans K1.out
  have k2 := ((olds Hbl.out).1 _ _ hb1).trans K2.out
  have k3 := ((olds Hbl.out).1 _ _ hb1).trans K3.out
  have hmk : ((q : Nat) : Int) < (nO : Int) := by omega
  go_wp2_with fail
  have hct := Contains_ct B A1 m d n1 d1 l o.pre w0 (Hl.out.keep Hbl.out) (R1.out.keep Hbl.out) (setB_iff.1 hs).1 (setB_iff.1 Hok.out.1).1
  with_reducible refine hct.mono ?_
  rintro e w1 ⟨rfl, rfl⟩
  clear hct
  go_wp2_with fail
  go_ret
  exact ⟨ret_bool (by rw [Hgo.out]), Hbl.out⟩
set_option maxRecDepth 100000 in
set_option maxHeartbeats 3200000 in
theorem Next_ct (a : TA) (T : Tsk) (N : Nat) (B : Option Addr) (m d : Nat) (l : List Int) (q : Nat) (w : World) (h : TkR w a T) (hl : Rd Enc.int w B m d l) (hos : ∀ o ∈ T.ops, setB N o.pre = true ∧ setB N o.add = true ∧ setB N o.del = true) (hN : N ≤ 1000) (hs : setB N l = true) (hq : q < a.nO) :
    Calls Try.prog 83 #[.agg #[.int .i64 T.facts, .slice a.I a.nI a.cI, .slice a.G a.nG a.cG, .slice a.O a.nO a.cO], .slice B m d, .int .i64 q] w (MadeI w (updF l (opAt T.ops q).add (opAt T.ops q).del)) := by
  obtain ⟨I, nI, cI, G, nG, cG, O, nO, cO⟩ := a
  simp only at hq ⊢
  have H := hide h
  have Hl := hide hl
  obtain ⟨b1, off1, o, A1, n1, d1, A2, n2, d2, A3, n3, d3, rfl, hoq, g0, g1, g2, g3, r1, r2, r3, r4⟩ := h.ops.op hq
  have hb1 : b1 < w.heap.size := World.block_lt_of_cell? w _ g0
  have hgo := opAt_eq hoq
  have hok := hos o (List.mem_of_getElem? hoq)
  have hlow := h.ops.low
  simp only at hlow
  have hl1 := r1.low
  have hl2 := r2.low
  have hl3 := r3.low
  have q1 := setB_len hok.1
  have q2 := setB_len hok.2.1
  have q3 := setB_len hok.2.2
  rw [r1.len] at q1
  rw [r2.len] at q2
  rw [r3.len] at q3
  have Hgo := hide hgo
  have Hok := hide hok
  have R1 := hide r1
  have R2 := hide r2
  have R3_ := hide r3
  have K0 := hide g0
  have K1 := hide g1
  have K2 := hide g2
  have K3 := hide g3
  clear h hl hos hoq r1 r2 r3 r4 g0 g1 g2 g3 hok hgo
  have Hbl := hide (Below.refl w.heap.size w)
  go_enter Try.func83, Try.ntmps83
  go_upto_region 1 with (fail)
  obtain ⟨B0, hB0⟩ : ∃ B0, B0 = w.heap.size := ⟨_, rfl⟩
  have HB0 := hide hB0
  clear hB0
  have s_0 : B0 ≤ w.heap.size := Nat.le_trans (Nat.le_of_eq HB0.out) Hbl.out.size
  have hyt := Blk.new (w) 25 [.int .i64 T.facts, .slice I nI cI, .slice G nG cG, .slice (some ⟨b1, off1, none⟩) nO cO]
  have hbW : Below (w).heap.size (w) ((w).alloc (.cells #[.int .i64 T.facts, .slice I nI cI, .slice G nG cG, .slice (some ⟨b1, off1, none⟩) nO cO] 25)) := (Below.refl _ _).alloc (Nat.le_refl _) _
  obtain ⟨w0, hW⟩ : ∃ W, W = (w).alloc (.cells #[.int .i64 T.facts, .slice I nI cI, .slice G nG cG, .slice (some ⟨b1, off1, none⟩) nO cO] 25) := ⟨_, rfl⟩
  rw [← hW] at hyt hbW ⊢
  replace Hbl := hide (Hbl.out.trans (hbW.mono Hbl.out.size))
  have Ht := hide hyt
  clear hW hbW hyt
  generalize w.heap.size = gT at Ht s_0 ⊢
  have t0 := Ht.out.cell 0
  have t1 := Ht.out.cell 1
  have t2 := Ht.out.cell 2
  have t3 := Ht.out.cell 3
  have tl := Ht.out.lt
  simp only [List.getElem?_cons_zero, List.getElem?_cons_succ] at t0 t1 t2 t3
  have a_t : B0 ≤ gT := by omega
  clear s_0
  have k0 := ((olds Hbl.out).1 _ _ hb1).trans K0.out
  have k1 := ((olds Hbl.out).1 _ _ hb1).trans K1.out
  have k2 := ((olds Hbl.out).1 _ _ hb1).trans K2.out
  have k3 := ((olds Hbl.out).1 _ _ hb1).trans K3.out
  have hmk : ((q : Nat) : Int) < (nO : Int) := by omega
  go_upto_region 2 with (fail)
  have n_t_o : ¬ gT = w0.heap.size := by omega
  have n_o_t : ¬ w0.heap.size = gT := by omega
  have s_t : gT < w0.heap.size := tl
  have s_0 : B0 ≤ w0.heap.size := Nat.le_trans (Nat.le_of_eq HB0.out) Hbl.out.size
  have hyo := Blk.new (w0) 27 [.slice A1 n1 d1, .slice A2 n2 d2, .slice A3 n3 d3, .int .i64 o.cost]
  have hbW : Below (w0).heap.size (w0) ((w0).alloc (.cells #[.slice A1 n1 d1, .slice A2 n2 d2, .slice A3 n3 d3, .int .i64 o.cost] 27)) := (Below.refl _ _).alloc (Nat.le_refl _) _
  obtain ⟨w1, hW⟩ : ∃ W, W = (w0).alloc (.cells #[.slice A1 n1 d1, .slice A2 n2 d2, .slice A3 n3 d3, .int .i64 o.cost] 27) := ⟨_, rfl⟩
  rw [← hW] at hyo hbW ⊢
  replace Ht := hide (Ht.out.keep hbW)
  replace Hbl := hide (Hbl.out.trans (hbW.mono Hbl.out.size))
  have Ho := hide hyo
  clear hW hbW hyo
  generalize w0.heap.size = gO at Ho n_t_o n_o_t s_t s_0 ⊢
  have t0 := Ht.out.cell 0
  have t1 := Ht.out.cell 1
  have t2 := Ht.out.cell 2
  have t3 := Ht.out.cell 3
  have tl := Ht.out.lt
  have o0 := Ho.out.cell 0
  have o1 := Ho.out.cell 1
  have o2 := Ho.out.cell 2
  have o3 := Ho.out.cell 3
  have ol := Ho.out.lt
  simp only [List.getElem?_cons_zero, List.getElem?_cons_succ] at t0 t1 t2 t3 o0 o1 o2 o3
  clear s_t
  have a_o : B0 ≤ gO := by omega
  clear s_0
  have hlm := setB_len hs
  rw [Hl.out.len] at hlm
  clear k0 k1 k2 k3
  go_wp2_with fail
  have hct := Update_ct B A2 A3 m d n2 d2 n3 d3 l o.add o.del w1 (Hl.out.keep Hbl.out) (R2.out.keep Hbl.out) (R3_.out.keep Hbl.out) (by omega) (by omega) (by omega) (up_le (setB_iff.1 Hok.out.2.2).1)
  with_reducible refine hct.mono ?_
  rintro e w2 ⟨hb, A, c, rfl, hown⟩
  have Hown := hide hown
  have Hb := hide hb
  clear hct hown hb
  go_wp2_with fail
  go_ret
  rw [Hgo.out]
  exact ⟨Hbl.out.trans (Hb.out.mono Hbl.out.size), A, c, rfl, own_low Hown.out Hbl.out.size⟩
set_option maxRecDepth 100000 in
set_option maxHeartbeats 3200000 in
theorem RStateOk_ct (a : TA) (T : Tsk) (B : Option Addr) (m d : Nat) (l : List Int) (w : World) (h : TkR w a T) (hf : -9223372036854775807 ≤ T.facts) (hl : Rd Enc.int w B m d l) :
    Calls Try.prog 42 #[.agg #[.int .i64 T.facts, .slice a.I a.nI a.cI, .slice a.G a.nG a.cG, .slice a.O a.nO a.cO], .slice B m d] w (Gives w (.bool (setB T.facts l))) := by
  obtain ⟨I, nI, cI, G, nG, cG, O, nO, cO⟩ := a
  obtain ⟨f1, f2⟩ := h.facts
  simp only
  have Hl := hide hl
  clear h hl
  have Hbl := hide (Below.refl w.heap.size w)
  go_enter Try.func42, Try.ntmps42
  go_upto_region 1 with (fail)
  obtain ⟨B0, hB0⟩ : ∃ B0, B0 = w.heap.size := ⟨_, rfl⟩
  have HB0 := hide hB0
  clear hB0
  have s_0 : B0 ≤ w.heap.size := Nat.le_trans (Nat.le_of_eq HB0.out) Hbl.out.size
  have hyt := Blk.new (w) 25 [.int .i64 T.facts, .slice I nI cI, .slice G nG cG, .slice O nO cO]
  have hbW : Below (w).heap.size (w) ((w).alloc (.cells #[.int .i64 T.facts, .slice I nI cI, .slice G nG cG, .slice O nO cO] 25)) := (Below.refl _ _).alloc (Nat.le_refl _) _
  obtain ⟨w0, hW⟩ : ∃ W, W = (w).alloc (.cells #[.int .i64 T.facts, .slice I nI cI, .slice G nG cG, .slice O nO cO] 25) := ⟨_, rfl⟩
  rw [← hW] at hyt hbW ⊢
  replace Hbl := hide (Hbl.out.trans (hbW.mono Hbl.out.size))
  have Ht := hide hyt
  clear hW hbW hyt
  generalize w.heap.size = gT at Ht s_0 ⊢
  have t0 := Ht.out.cell 0
  have t1 := Ht.out.cell 1
  have t2 := Ht.out.cell 2
  have t3 := Ht.out.cell 3
  have tl := Ht.out.lt
  simp only [List.getElem?_cons_zero, List.getElem?_cons_succ] at t0 t1 t2 t3
  have a_t : B0 ≤ gT := by omega
  clear s_0
  go_wp2_with fail
  have hct := RIsSet_ct B m d l T.facts w0 (Hl.out.keep Hbl.out) (by omega)
  with_reducible refine hct.mono ?_
  rintro e w1 ⟨rfl, hb⟩
  have Hb := hide hb
  clear hct hb
  go_wp2_with fail
  go_ret
  exact ⟨ret_bool rfl, Hbl.out.trans (Hb.out.below _)⟩
end Go.Proofs.Ytnfeknfakkdbhaa
