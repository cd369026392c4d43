/- Plans executed by the package strips: Works, Play, Solves, Cost, Apply. -/
import Derived.Test.YtnfeknfakkdbhaaTs2
import Derived.Test.YtnfeknfakkdbhaaEs
namespace Go.Proofs.Ytnfeknfakkdbhaa
set_option linter.unusedVariables false
set_option linter.unusedSimpArgs false
open Go.RowKit

def worksF (T : Tsk) (s l : List Int) : Bool := match execO s (l.map (opAt T.ops)) with
  | some r => subsetB T.goal r
  | none => false
theorem works_len {T : Tsk} {s l : List Int} : (worksF T s l = true → (runF T.ops s l).length = l.length + 1) ∧ ((runF T.ops s l).length ≠ l.length + 1 → execO s (l.map (opAt T.ops)) = none) ∧ ∀ r, (runF T.ops s l).length = l.length + 1 → (runF T.ops s l)[l.length]? = some r → execO s (l.map (opAt T.ops)) = some r := by
  have e1 := fun r => exec_some (l.map (opAt T.ops)) s r
  have e2 := exec_none (l.map (opAt T.ops)) s
  rw [List.length_map] at e1 e2
  cases he : execO s (l.map (opAt T.ops)) with
  | none =>
    have := e2 he
    unfold runF worksF
    rw [he]
    refine ⟨fun h => (by cases h), fun _ => rfl, fun r h => ?_⟩
    rw [List.length_cons] at h
    omega
  | some r =>
    obtain ⟨h1, h2⟩ := e1 r he
    unfold runF worksF
    rw [he]
    refine ⟨fun _ => by rw [List.length_cons, h1], fun h => absurd (by rw [List.length_cons, h1]) h, fun q _ hq => ?_⟩
    rw [h2] at hq
    exact hq
def playR (T : Tsk) (s l : List Int) : List (List Int) × Int × Int :=
  if (stateFault T s).1 ≠ 0 then ([], stateFault T s) else if (stepsFault T.ops.length l).1 ≠ 0 then ([], stepsFault T.ops.length l) else
  if (runF T.ops s l).length ≤ l.length then ([], 11, ((runF T.ops s l).length : Int) - 1) else (runF T.ops s l, 0, 0)
def RowsF (w : World) (r : List (List Int) × Int × Int) (e : Ending) (w' : World) : Prop :=
  Below w.heap.size w w' ∧ ∃ (A : Option Addr) (n c : Nat), e = .returned (.tuple #[.slice A n c, fault r.2.1 r.2.2]) ∧ ∀ w'', Chg (fun b => b < w.heap.size) w' w'' → Rd (Enc.sl Enc.int) w'' A n c r.1
theorem rowsF_nil {w w' : World} (h : Below w.heap.size w w') (c i : Int) : RowsF w ([], c, i) (.returned (.tuple #[.slice none 0 0, fault c i])) w' := ⟨h, none, 0, 0, rfl, fun _ _ => Rd.nil_ _ _⟩
def solvesR (T : Tsk) (l : List Int) : Bool × Int × Int := if (planFault T l).1 ≠ 0 then (false, planFault T l) else (worksF T T.init l, 0, 0)
def scostR (T : Tsk) (l : List Int) : Int × Int × Int := if (planFault T l).1 ≠ 0 then (0, planFault T l) else (costF T.ops l, 0, 0)
def applyR (T : Tsk) (s : List Int) (x : Int) : List Int × Int × Int :=
  if (stateFault T s).1 ≠ 0 then ([], stateFault T s) else if x < 0 ∨ (T.ops.length : Int) ≤ x then ([], 3, -6) else
  if subsetB (opAt T.ops x).pre s = false then ([], 11, x) else (updF s (opAt T.ops x).add (opAt T.ops x).del, 0, 0)
theorem okt_sets {T : Tsk} {N : Nat} (h : OkT T N) : ∀ o ∈ T.ops, setB N o.pre = true ∧ setB N o.add = true ∧ setB N o.del = true := fun o ho => ⟨(h.ops o ho).pre, (h.ops o ho).add, (h.ops o ho).del⟩
set_option maxRecDepth 100000 in
set_option maxHeartbeats 3200000 in
theorem Works_ct (a : TA) (T : Tsk) (N : Nat) (P : Option Addr) (np dp : Nat) (s : List Int) (B : Option Addr) (m d : Nat) (l : List Int) (w : World) (h : TkR w a T) (hs : Rd Enc.int w P np dp s) (hl : Rd Enc.int w B m d l)
    (hos : ∀ o ∈ T.ops, setB N o.pre = true ∧ setB N o.add = true ∧ setB N o.del = true) (hN : N ≤ 1000) (hgoal : setB N T.goal = true) (hset : setB N s = true) (hr : ∀ x ∈ l, 0 ≤ x ∧ x < T.ops.length) (hm : m ≤ 1000000) :
    Calls Try.prog 78 #[.agg #[.int .i64 T.facts, .slice a.I a.nI a.cI, .slice a.G a.nG a.cG, .slice a.O a.nO a.cO], .slice P np dp, .slice B m d] w (Gives w (.bool (worksF T s l))) := by
  have hrun := Run_ct a T N P np dp s B m d l w
  have hg0 := hgoal
  obtain ⟨I, nI, cI, G, nG, cG, O, nO, cO⟩ := a
  have H := hide h
  have Hl := hide hl
  have Hs := hide hs
  have Hll := hide hl.len
  have hlm := hl.low
  have Hos := hide hos
  have Hset := hide hset
  have Hr := hide hr
  have Hgoal := hide hgoal
  simp only
  clear h hl hs hos hset hr hgoal hg0 hrun
  have Hbl := hide (Below.refl w.heap.size w)
  go_enter Try.func78, Try.ntmps78
  go_upto_region 1 with (fail)
  obtain ⟨B0, hB0⟩ : ∃ B0, B0 = w.heap.size := ⟨_, rfl⟩
  have HB0 := hide hB0
  clear hB0
  have s_0 : B0 ≤ w.heap.size := Nat.le_trans (Nat.le_of_eq HB0.out) Hbl.out.size
  have hyt := Blk.new (w) 25 [.int .i64 T.facts, .slice I nI cI, .slice G nG cG, .slice O nO cO]
  have hbW : Below (w).heap.size (w) ((w).alloc (.cells #[.int .i64 T.facts, .slice I nI cI, .slice G nG cG, .slice O nO cO] 25)) := (Below.refl _ _).alloc (Nat.le_refl _) _
  obtain ⟨w0, hW⟩ : ∃ W, W = (w).alloc (.cells #[.int .i64 T.facts, .slice I nI cI, .slice G nG cG, .slice O nO cO] 25) := ⟨_, rfl⟩
  rw [← hW] at hyt hbW ⊢
  replace Hbl := hide (Hbl.out.trans (hbW.mono Hbl.out.size))
  have Ht := hide hyt
  clear hW hbW hyt
  generalize w.heap.size = gT at Ht s_0 ⊢
  have t0 := Ht.out.cell 0
  have t1 := Ht.out.cell 1
  have t2 := Ht.out.cell 2
  have t3 := Ht.out.cell 3
  have tl := Ht.out.lt
  simp only [List.getElem?_cons_zero, List.getElem?_cons_succ] at t0 t1 t2 t3
  have a_t : B0 ≤ gT := by omega
  clear s_0
  have hct := Run_ct ⟨I, nI, cI, G, nG, cG, O, nO, cO⟩ T N P np dp s B m d l w0 (H.out.keep Hbl.out) (Hs.out.keep Hbl.out) (Hl.out.keep Hbl.out) Hos.out hN Hset.out Hr.out (by omega)
  go_wp2_with fail
  with_reducible refine hct.mono ?_
  rintro e w1 ⟨hb, A, c, rfl, hrows⟩
  have hrd := hrows w1 (Chg.refl _ _)
  clear hrows hct
  clear t0 t1 t2 t3 tl
  replace Ht := hide (Ht.out.keep hb)
  replace Hbl := hide (Hbl.out.trans (hb.mono Hbl.out.size))
  clear hb
  have t0 := Ht.out.cell 0
  have t1 := Ht.out.cell 1
  have t2 := Ht.out.cell 2
  have t3 := Ht.out.cell 3
  have tl := Ht.out.lt
  simp only [List.getElem?_cons_zero, List.getElem?_cons_succ] at t0 t1 t2 t3
  have hlaw := works_len (T := T) (s := s) (l := l)
  rw [Hll.out] at hlaw
  have hsets : ∀ r ∈ runF T.ops s l, setB N r = true := fun r hr => by
    unfold runF at hr
    rcases List.mem_cons.1 hr with rfl | hr
    · exact Hset.out
    · refine runT_sets _ s Hset.out (fun o ho => ?_) r hr
      obtain ⟨x, hx, rfl⟩ := List.mem_map.1 ho
      have := Hr.out x hx
      exact (Hos.out _ (opAt_mem this.1 this.2)).2.1
  generalize hrs : runF T.ops s l = rs at hrd hlaw hsets ⊢
  clear hrs
  have Hlaw := hide hlaw
  have Hsets := hide hsets
  have hlow := hrd.low
  have Hrl := hide hrd.len
  have Hrd := hide hrd
  clear hlaw hsets hrd
  generalize hq : rs.length = q at *
  have Hq := hide hq
  clear hq
  go_upto_region 2 with (fail)
  by_cases hqm : q = m + 1
  · have Hqm := hide hqm
    obtain ⟨b2, off2, r, A2, n2, c2, rfl, hr2, hc2, hrd2⟩ := Hrd.out.sl (show m < q by omega)
    have hex := Hlaw.out.2.2 r hqm hr2
    have hset2 := Hsets.out r (List.mem_of_getElem? hr2)
    have hres : worksF T s l = subsetB T.goal r := by unfold worksF; rw [hex]
    have hcell := hc2
    have hct := fun w2 (hb : Below w1.heap.size w1 w2) => Contains_ct A2 G n2 c2 nG cG r T.goal w2 (hrd2.keep hb) (H.out.goal.keep (Hbl.out.trans (hb.mono Hbl.out.size))) (setB_iff.1 hset2).1 (setB_iff.1 Hgoal.out).1
    have Hct := hide hct
    have Hres := hide hres
    have hgd : (q : Int) = (m : Int) + 1 := by omega
    have hmq : (m : Int) < (q : Int) := by omega
    clear hr2 hrd2 hex hset2 hres hct hqm hc2
    go_quiet ((go_at_call 108; exact same_call (Hct.out _ (below_drewN (Below.refl _ _) _))))
    go_wp2_with fail
    go_ret
    exact ⟨ret_bool Hres.out.symm, below_drewN Hbl.out _⟩
  · have hex := Hlaw.out.2.1 hqm
    have hres : worksF T s l = false := by unfold worksF; rw [hex]
    have Hres := hide hres
    have hgd : ((q : Int) == (m : Int) + 1) = false := by simp; omega
    have hgd2 : decide ((q : Int) = (m : Int) + 1) = false := by simp; omega
    clear hex hres hqm
    go_quiet (fail)
    go_wp2_with fail
    go_ret
    exact ⟨ret_bool Hres.out.symm, below_drewN Hbl.out _⟩
set_option maxRecDepth 100000 in
set_option maxHeartbeats 3200000 in
theorem Play_ct (a : TA) (T : Tsk) (P : Option Addr) (np dp : Nat) (s : List Int) (B : Option Addr) (m d : Nat) (l : List Int) (w : World) (h : TkR w a T) (hs : Rd Enc.int w P np dp s) (hl : Rd Enc.int w B m d l) :
    Calls Try.prog 41 #[.agg #[.int .i64 T.facts, .slice a.I a.nI a.cI, .slice a.G a.nG a.cG, .slice a.O a.nO a.cO], .slice P np dp, .slice B m d] w (RowsF w (playR T s l)) := by
  have hrun := Run_ct a T
  have hsf := StateFault_ct a T P np dp s
  obtain ⟨I, nI, cI, G, nG, cG, O, nO, cO⟩ := a
  simp only at hrun hsf ⊢
  rcases hq : stateFault T s with ⟨ec, ei⟩
  rcases hq2 : stepsFault T.ops.length l with ⟨sc, si⟩
  rw [hq] at hsf
  have H := hide h
  have Hl := hide hl
  have Hs := hide hs
  have Hll := hide hl.len
  have hlm := hl.low
  have hlO := h.ops.len
  have hlow := h.ops.low
  simp only at hlO hlow
  have HlO := hide hlO
  have Hq := hide hq
  have Hq2 := hide hq2
  have Hrun := hide hrun
  have Hsf := hide hsf
  clear h hl hs hlO hq hq2 hrun hsf
  have Hbl := hide (Below.refl w.heap.size w)
  go_enter Try.func41, Try.ntmps41
  go_upto_region 1 with (fail)
  obtain ⟨B0, hB0⟩ : ∃ B0, B0 = w.heap.size := ⟨_, rfl⟩
  have HB0 := hide hB0
  clear hB0
  have s_0 : B0 ≤ w.heap.size := Nat.le_trans (Nat.le_of_eq HB0.out) Hbl.out.size
  have hyt := Blk.new (w) 25 [.int .i64 T.facts, .slice I nI cI, .slice G nG cG, .slice O nO cO]
  have hyf := Blk.new ((w).alloc (.cells #[.int .i64 T.facts, .slice I nI cI, .slice G nG cG, .slice O nO cO] 25)) 29 [.int .i64 0, .int .i64 0]
  replace hyt := hyt.alloc (.cells #[.int .i64 0, .int .i64 0] 29)
  have hbW := below_two w (.cells #[.int .i64 T.facts, .slice I nI cI, .slice G nG cG, .slice O nO cO] 25) (.cells #[.int .i64 0, .int .i64 0] 29)
  simp only [World.size_alloc] at hyf
  obtain ⟨w0, hW⟩ : ∃ W, W = ((w).alloc (.cells #[.int .i64 T.facts, .slice I nI cI, .slice G nG cG, .slice O nO cO] 25)).alloc (.cells #[.int .i64 0, .int .i64 0] 29) := ⟨_, rfl⟩
  rw [← hW] at hyt hyf hbW ⊢
  replace Hbl := hide (Hbl.out.trans (hbW.mono Hbl.out.size))
  have Ht := hide hyt
  have Hf := hide hyf
  clear hW hbW hyt hyf
  generalize w.heap.size = gT at Ht Hf s_0 ⊢
  have t0 := Ht.out.cell 0
  have t1 := Ht.out.cell 1
  have t2 := Ht.out.cell 2
  have t3 := Ht.out.cell 3
  have tl := Ht.out.lt
  have f0 := Hf.out.cell 0
  have f1 := Hf.out.cell 1
  have fl := Hf.out.lt
  simp only [List.getElem?_cons_zero, List.getElem?_cons_succ] at t0 t1 t2 t3 f0 f1
  have a_t : B0 ≤ gT := by omega
  have a_f : B0 ≤ gT + 1 := by omega
  clear s_0
  have n_t_f : ¬ gT = gT + 1 := by omega
  have n_f_t : ¬ gT + 1 = gT := by omega
  go_wp2_with fail
  with_reducible refine (Hsf.out w0 (H.out.keep Hbl.out) (Hs.out.keep Hbl.out)).mono ?_
  rintro e w1 ⟨rfl, hb⟩
  clear t0 t1 t2 t3 f0 f1 tl fl
  replace Ht := hide (Ht.out.keep hb)
  replace Hf := hide (Hf.out.keep hb)
  replace Hbl := hide (Hbl.out.trans (hb.mono Hbl.out.size))
  clear hb
  unfold fault
  have t0 := Ht.out.cell 0
  have t1 := Ht.out.cell 1
  have t2 := Ht.out.cell 2
  have t3 := Ht.out.cell 3
  have tl := Ht.out.lt
  have f0 := Hf.out.cell 0
  have f1 := Hf.out.cell 1
  have fl := Hf.out.lt
  simp only [List.getElem?_cons_zero, List.getElem?_cons_succ] at t0 t1 t2 t3 f0 f1
  go_upto_region 2 with (fail)
  have n_t_p : ¬ gT = w1.heap.size := by omega
  have n_p_t : ¬ w1.heap.size = gT := by omega
  have n_f_p : ¬ gT + 1 = w1.heap.size := by omega
  have n_p_f : ¬ w1.heap.size = gT + 1 := by omega
  have s_t : gT < w1.heap.size := tl
  have s_f : gT + 1 < w1.heap.size := fl
  have s_0 : B0 ≤ w1.heap.size := Nat.le_trans (Nat.le_of_eq HB0.out) Hbl.out.size
  have hyp := Blk.new (w1) 29 [.int .i64 ec, .int .i64 ei]
  have hbW : Below (w1).heap.size (w1) ((w1).alloc (.cells #[.int .i64 ec, .int .i64 ei] 29)) := (Below.refl _ _).alloc (Nat.le_refl _) _
  obtain ⟨w2, hW⟩ : ∃ W, W = (w1).alloc (.cells #[.int .i64 ec, .int .i64 ei] 29) := ⟨_, rfl⟩
  rw [← hW] at hyp hbW ⊢
  replace Ht := hide (Ht.out.keep hbW)
  replace Hf := hide (Hf.out.keep hbW)
  replace Hbl := hide (Hbl.out.trans (hbW.mono Hbl.out.size))
  have Hp := hide hyp
  clear hW hbW hyp
  generalize w1.heap.size = gp at Hp n_t_p n_p_t n_f_p n_p_f s_t s_f s_0 ⊢
  have t0 := Ht.out.cell 0
  have t1 := Ht.out.cell 1
  have t2 := Ht.out.cell 2
  have t3 := Ht.out.cell 3
  have tl := Ht.out.lt
  have f0 := Hf.out.cell 0
  have f1 := Hf.out.cell 1
  have fl := Hf.out.lt
  have p0 := Hp.out.cell 0
  have p1 := Hp.out.cell 1
  have pl := Hp.out.lt
  simp only [List.getElem?_cons_zero, List.getElem?_cons_succ] at t0 t1 t2 t3 f0 f1 p0 p1
  clear s_t
  clear s_f
  have a_p : B0 ≤ gp := by omega
  clear s_0
  by_cases hec : ec = 0
  · subst hec
    obtain ⟨hz, htf, hset⟩ := stateFault_ok (T := T) (s := s) (by rw [Hq.out])
    rw [Hq.out] at hz
    obtain ⟨_, e2⟩ := Prod.mk.inj hz
    subst e2
    obtain ⟨N, hok⟩ := taskFault_ok htf
    have hf := hok.facts
    rw [hf] at hset
    have Hset := hide hset
    have Hok := hide hok
    clear hz htf hset hok hf
    have hct := Steps_ct nO B m d l w2 (Hl.out.keep Hbl.out) hlow
    have hq3 := Hq2.out
    rw [HlO.out] at hq3
    rw [hq3] at hct
    clear hq3
    go_wp2_with fail
    with_reducible refine (hct).mono ?_
    rintro e w3 ⟨rfl, hb⟩
    clear t0 t1 t2 t3 f0 f1 p0 p1 tl fl pl
    replace Ht := hide (Ht.out.keep hb)
    replace Hf := hide (Hf.out.keep hb)
    replace Hp := hide (Hp.out.keep hb)
    replace Hbl := hide (Hbl.out.trans (hb.mono Hbl.out.size))
    clear hb
    clear hct
    unfold fault
    have t0 := Ht.out.cell 0
    have t1 := Ht.out.cell 1
    have t2 := Ht.out.cell 2
    have t3 := Ht.out.cell 3
    have tl := Ht.out.lt
    have f0 := Hf.out.cell 0
    have f1 := Hf.out.cell 1
    have fl := Hf.out.lt
    have p0 := Hp.out.cell 0
    have p1 := Hp.out.cell 1
    have pl := Hp.out.lt
    simp only [List.getElem?_cons_zero, List.getElem?_cons_succ] at t0 t1 t2 t3 f0 f1 p0 p1
    have pf0 := Hp.out.frozen 0
    have pf1 := Hp.out.frozen 1
    go_upto_region 4 with (fail)
    clear pf0 pf1
    have hyb := ((Hp.out.set 0 (.int .i64 sc)).set 1 (.int .i64 si))
    simp only [List.set_cons_zero, List.set_cons_succ] at hyb
    have hbW := (below_set ((below_set (Below.refl B0 w3) (g := gp) a_p 0 (.int .i64 sc))) (g := gp) a_p 1 (.int .i64 si))
    have hcW := ((Chg.refl (fun x => x = gp) w3).trans (Chg.set _ (gp) 0 (.int .i64 sc))).trans (Chg.set _ (gp) 1 (.int .i64 si))
    obtain ⟨w4, hW⟩ : ∃ W, W = ((w3).setCell ⟨gp, 0, none⟩ (.int .i64 sc)).setCell ⟨gp, 1, none⟩ (.int .i64 si) := ⟨_, rfl⟩
    rw [← hW] at hyb hbW hcW ⊢
    replace Hp := hide hyb
    clear hW hyb
    clear t0 t1 t2 t3 f0 f1 p0 p1 tl fl pl
    replace Ht := hide (hcW.blk Ht.out (by exact n_t_p))
    replace Hf := hide (hcW.blk Hf.out (by exact n_f_p))
    replace Hbl := hide (Hbl.out.trans (hbW.mono (Nat.le_of_eq HB0.out.symm)))
    clear hbW hcW
    have t0 := Ht.out.cell 0
    have t1 := Ht.out.cell 1
    have t2 := Ht.out.cell 2
    have t3 := Ht.out.cell 3
    have tl := Ht.out.lt
    have f0 := Hf.out.cell 0
    have f1 := Hf.out.cell 1
    have fl := Hf.out.lt
    have p0 := Hp.out.cell 0
    have p1 := Hp.out.cell 1
    have pl := Hp.out.lt
    simp only [List.getElem?_cons_zero, List.getElem?_cons_succ] at t0 t1 t2 t3 f0 f1 p0 p1
    by_cases hsc : sc = 0
    · subst hsc
      obtain ⟨hz, h60, hr⟩ := steps_ok (n := T.ops.length) (l := l) (by rw [Hq2.out])
      rw [Hq2.out] at hz
      obtain ⟨_, e2⟩ := Prod.mk.inj hz
      subst e2
      rw [Hll.out] at h60
      have Hr := hide hr
      clear hz hr
      have hct := Hrun.out N P np dp s B m d l w4 (H.out.keep Hbl.out) (Hs.out.keep Hbl.out) (Hl.out.keep Hbl.out) (okt_sets Hok.out) (by have := Hok.out.low; omega) Hset.out Hr.out (by omega)
      go_wp2_with fail
      with_reducible refine hct.mono ?_
      rintro e w5 ⟨hb, A, c, rfl, hrows⟩
      have Hrows := hide hrows
      have hlen := runF_len T.ops s l
      rw [Hll.out] at hlen
      have hpos : 1 ≤ (runF T.ops s l).length := by unfold runF; simp
      have s4f : gT + 1 < w4.heap.size := fl
      clear hrows hct
      clear t0 t1 t2 t3 f0 f1 p0 p1 tl fl pl
      replace Ht := hide (Ht.out.keep hb)
      replace Hf := hide (Hf.out.keep hb)
      replace Hp := hide (Hp.out.keep hb)
      replace Hbl := hide (Hbl.out.trans (hb.mono Hbl.out.size))
      clear hb
      have t0 := Ht.out.cell 0
      have t1 := Ht.out.cell 1
      have t2 := Ht.out.cell 2
      have t3 := Ht.out.cell 3
      have tl := Ht.out.lt
      have f0 := Hf.out.cell 0
      have f1 := Hf.out.cell 1
      have fl := Hf.out.lt
      have p0 := Hp.out.cell 0
      have p1 := Hp.out.cell 1
      have pl := Hp.out.lt
      simp only [List.getElem?_cons_zero, List.getElem?_cons_succ] at t0 t1 t2 t3 f0 f1 p0 p1
      generalize hq : (runF T.ops s l).length = q at *
      have Hlq := hide hq
      clear hq
      by_cases hqm : q ≤ m
      · skip
        have ff0 := Hf.out.frozen 0
        have ff1 := Hf.out.frozen 1
        go_wp2_with fail
        refine bodyPost_ret (v := .tuple #[.slice none 0 0, fault 11 ((q : Int) - 1)]) (by simp [results, Try.results41, go_sem, fault, f0, f1, fl]) rfl ?_
        have hres : playR T s l = ([], 11, ((q : Int) - 1)) := by
          unfold playR
          rw [Hq.out, if_neg (by simp), Hq2.out, if_neg (by simp)]
          rw [Hlq.out, Hll.out, if_pos hqm]
        rw [hres]
        have hbx := HB0.out
        refine rowsF_nil ?_ _ _
        repeat' (first | (with_reducible exact Hbl.out) | (with_reducible refine Below.drew ?_) | (with_reducible refine below_set ?_ ?_ _ _) | (have := HB0.out; omega))
      · skip
        have ff0 := Hf.out.frozen 0
        have ff1 := Hf.out.frozen 1
        go_wp2_with fail
        refine bodyPost_ret (v := .tuple #[.slice A q c, fault 0 0]) (by simp [results, Try.results41, go_sem, fault, f0, f1, fl]) rfl ?_
        have hres : playR T s l = (runF T.ops s l, 0, 0) := by
          unfold playR
          rw [Hq.out, if_neg (by simp), Hq2.out, if_neg (by simp)]
          rw [Hlq.out, Hll.out, if_neg hqm]
        rw [hres]
        have hbx := HB0.out
        refine ⟨?_, A, q, c, rfl, fun w'' hc => ?_⟩
        · repeat' (first | (with_reducible exact Hbl.out) | (with_reducible refine Below.drew ?_) | (with_reducible refine below_set ?_ ?_ _ _) | (have := HB0.out; omega))
        · have hrr := Hrows.out w'' ((((Chg.set _ (gT + 1) 0 _).trans (Chg.set _ (gT + 1) 1 _)).mono (fun b e => by omega)).trans (hc.mono (fun b e => by have := HB0.out; omega)))
          simpa [Hlq.out] using hrr
    · have hne : (sc != 0) = true := by simpa using hsc
      have ff0 := Hf.out.frozen 0
      have ff1 := Hf.out.frozen 1
      go_wp2_with fail
      go_region
      all_goals go_wp2_with fail
      all_goals refine bodyPost_ret (v := .tuple #[.slice none 0 0, fault sc si]) (by simp [results, Try.results41, go_sem, fault, f0, f1, fl]) rfl ?_
      have hres : playR T s l = ([], sc, si) := by
        unfold playR
        rw [Hq.out, if_neg (by simp), Hq2.out, if_pos hsc]
      rw [hres]
      have hbx := HB0.out
      refine rowsF_nil ?_ _ _
      repeat' (first | (with_reducible exact Hbl.out) | (with_reducible refine Below.drew ?_) | (with_reducible refine below_set ?_ ?_ _ _) | (have := HB0.out; omega))
  · have hne : (ec != 0) = true := by simpa using hec
    have hne2 : (ec == 0) = false := by simpa using hec
    have ff0 := Hf.out.frozen 0
    have ff1 := Hf.out.frozen 1
    go_wp2_with fail
    go_region
    all_goals go_wp2_with fail
    all_goals refine bodyPost_ret (v := .tuple #[.slice none 0 0, fault ec ei]) (by simp [results, Try.results41, go_sem, fault, f0, f1, fl]) rfl ?_
    have hres : playR T s l = ([], ec, ei) := by
      unfold playR
      rw [Hq.out, if_pos hec]
    rw [hres]
    have hbx := HB0.out
    refine rowsF_nil ?_ _ _
    repeat' (first | (with_reducible exact Hbl.out) | (with_reducible refine Below.drew ?_) | (with_reducible refine below_set ?_ ?_ _ _) | (have := HB0.out; omega))
set_option maxRecDepth 100000 in
set_option maxHeartbeats 3200000 in
theorem SSolves_ct (a : TA) (T : Tsk) (B : Option Addr) (m d : Nat) (l : List Int) (w : World) (h : TkR w a T) (hl : Rd Enc.int w B m d l) :
    Calls Try.prog 38 #[.agg #[.int .i64 T.facts, .slice a.I a.nI a.cI, .slice a.G a.nG a.cG, .slice a.O a.nO a.cO], .slice B m d] w (Gives w (.tuple #[.bool (solvesR T l).1, fault (solvesR T l).2.1 (solvesR T l).2.2])) := by
  have hpf := SPlanFault_ct a T B m d l
  obtain ⟨I, nI, cI, G, nG, cG, O, nO, cO⟩ := a
  simp only at hpf ⊢
  rcases hq : planFault T l with ⟨ec, ei⟩
  rw [hq] at hpf
  have H := hide h
  have Hl := hide hl
  have Hll := hide hl.len
  have hlm := hl.low
  have hlO := h.ops.len
  have hlow := h.ops.low
  simp only at hlO hlow
  have HlO := hide hlO
  have Hq := hide hq
  have Hpf := hide hpf
  clear h hl hlO hq hpf
  have Hbl := hide (Below.refl w.heap.size w)
  go_enter Try.func38, Try.ntmps38
  go_upto_region 1 with (fail)
  obtain ⟨B0, hB0⟩ : ∃ B0, B0 = w.heap.size := ⟨_, rfl⟩
  have HB0 := hide hB0
  clear hB0
  have s_0 : B0 ≤ w.heap.size := Nat.le_trans (Nat.le_of_eq HB0.out) Hbl.out.size
  have hyt := Blk.new (w) 25 [.int .i64 T.facts, .slice I nI cI, .slice G nG cG, .slice O nO cO]
  have hyf := Blk.new ((w).alloc (.cells #[.int .i64 T.facts, .slice I nI cI, .slice G nG cG, .slice O nO cO] 25)) 29 [.int .i64 0, .int .i64 0]
  replace hyt := hyt.alloc (.cells #[.int .i64 0, .int .i64 0] 29)
  have hbW := below_two w (.cells #[.int .i64 T.facts, .slice I nI cI, .slice G nG cG, .slice O nO cO] 25) (.cells #[.int .i64 0, .int .i64 0] 29)
  simp only [World.size_alloc] at hyf
  obtain ⟨w0, hW⟩ : ∃ W, W = ((w).alloc (.cells #[.int .i64 T.facts, .slice I nI cI, .slice G nG cG, .slice O nO cO] 25)).alloc (.cells #[.int .i64 0, .int .i64 0] 29) := ⟨_, rfl⟩
  rw [← hW] at hyt hyf hbW ⊢
  replace Hbl := hide (Hbl.out.trans (hbW.mono Hbl.out.size))
  have Ht := hide hyt
  have Hf := hide hyf
  clear hW hbW hyt hyf
  generalize w.heap.size = gT at Ht Hf s_0 ⊢
  have t0 := Ht.out.cell 0
  have t1 := Ht.out.cell 1
  have t2 := Ht.out.cell 2
  have t3 := Ht.out.cell 3
  have tl := Ht.out.lt
  have f0 := Hf.out.cell 0
  have f1 := Hf.out.cell 1
  have fl := Hf.out.lt
  simp only [List.getElem?_cons_zero, List.getElem?_cons_succ] at t0 t1 t2 t3 f0 f1
  have a_t : B0 ≤ gT := by omega
  have a_f : B0 ≤ gT + 1 := by omega
  clear s_0
  have n_t_f : ¬ gT = gT + 1 := by omega
  have n_f_t : ¬ gT + 1 = gT := by omega
  go_wp2_with fail
  with_reducible refine (Hpf.out w0 (H.out.keep Hbl.out) (Hl.out.keep Hbl.out)).mono ?_
  rintro e w1 ⟨rfl, hb⟩
  clear t0 t1 t2 t3 f0 f1 tl fl
  replace Ht := hide (Ht.out.keep hb)
  replace Hf := hide (Hf.out.keep hb)
  replace Hbl := hide (Hbl.out.trans (hb.mono Hbl.out.size))
  clear hb
  unfold fault
  have t0 := Ht.out.cell 0
  have t1 := Ht.out.cell 1
  have t2 := Ht.out.cell 2
  have t3 := Ht.out.cell 3
  have tl := Ht.out.lt
  have f0 := Hf.out.cell 0
  have f1 := Hf.out.cell 1
  have fl := Hf.out.lt
  simp only [List.getElem?_cons_zero, List.getElem?_cons_succ] at t0 t1 t2 t3 f0 f1
  go_upto_region 2 with (fail)
  have n_t_p : ¬ gT = w1.heap.size := by omega
  have n_p_t : ¬ w1.heap.size = gT := by omega
  have n_f_p : ¬ gT + 1 = w1.heap.size := by omega
  have n_p_f : ¬ w1.heap.size = gT + 1 := by omega
  have s_t : gT < w1.heap.size := tl
  have s_f : gT + 1 < w1.heap.size := fl
  have s_0 : B0 ≤ w1.heap.size := Nat.le_trans (Nat.le_of_eq HB0.out) Hbl.out.size
  have hyp := Blk.new (w1) 29 [.int .i64 ec, .int .i64 ei]
  have hbW : Below (w1).heap.size (w1) ((w1).alloc (.cells #[.int .i64 ec, .int .i64 ei] 29)) := (Below.refl _ _).alloc (Nat.le_refl _) _
  obtain ⟨w2, hW⟩ : ∃ W, W = (w1).alloc (.cells #[.int .i64 ec, .int .i64 ei] 29) := ⟨_, rfl⟩
  rw [← hW] at hyp hbW ⊢
  replace Ht := hide (Ht.out.keep hbW)
  replace Hf := hide (Hf.out.keep hbW)
  replace Hbl := hide (Hbl.out.trans (hbW.mono Hbl.out.size))
  have Hp := hide hyp
  clear hW hbW hyp
  generalize w1.heap.size = gp at Hp n_t_p n_p_t n_f_p n_p_f s_t s_f s_0 ⊢
  have t0 := Ht.out.cell 0
  have t1 := Ht.out.cell 1
  have t2 := Ht.out.cell 2
  have t3 := Ht.out.cell 3
  have tl := Ht.out.lt
  have f0 := Hf.out.cell 0
  have f1 := Hf.out.cell 1
  have fl := Hf.out.lt
  have p0 := Hp.out.cell 0
  have p1 := Hp.out.cell 1
  have pl := Hp.out.lt
  simp only [List.getElem?_cons_zero, List.getElem?_cons_succ] at t0 t1 t2 t3 f0 f1 p0 p1
  clear s_t
  clear s_f
  have a_p : B0 ≤ gp := by omega
  clear s_0
  by_cases hec : ec = 0
  · subst hec
    obtain ⟨hz, htf, h60, hr⟩ := planFault_ok (T := T) (l := l) (by rw [Hq.out])
    rw [Hq.out] at hz
    obtain ⟨_, e2⟩ := Prod.mk.inj hz
    subst e2
    obtain ⟨N, hok⟩ := taskFault_ok htf
    rw [Hll.out] at h60
    have Hok := hide hok
    have Hr := hide hr
    clear hz htf hok hr
    have hct := Works_ct ⟨I, nI, cI, G, nG, cG, O, nO, cO⟩ T N I nI cI T.init B m d l w2 (H.out.keep Hbl.out) (H.out.keep Hbl.out).init (Hl.out.keep Hbl.out) (okt_sets Hok.out) (by have := Hok.out.low; omega) Hok.out.goal Hok.out.init Hr.out (by omega)
    obtain ⟨bo, hbo⟩ : ∃ bo, bo = worksF T T.init l := ⟨_, rfl⟩
    rw [← hbo] at hct
    have Hbo := hide hbo
    clear hbo
    go_wp2_with fail
    with_reducible refine (hct).mono ?_
    rintro e w3 ⟨rfl, hb⟩
    clear t0 t1 t2 t3 f0 f1 p0 p1 tl fl pl
    replace Ht := hide (Ht.out.keep hb)
    replace Hf := hide (Hf.out.keep hb)
    replace Hp := hide (Hp.out.keep hb)
    replace Hbl := hide (Hbl.out.trans (hb.mono Hbl.out.size))
    clear hb
    clear hct
    have t0 := Ht.out.cell 0
    have t1 := Ht.out.cell 1
    have t2 := Ht.out.cell 2
    have t3 := Ht.out.cell 3
    have tl := Ht.out.lt
    have f0 := Hf.out.cell 0
    have f1 := Hf.out.cell 1
    have fl := Hf.out.lt
    have p0 := Hp.out.cell 0
    have p1 := Hp.out.cell 1
    have pl := Hp.out.lt
    simp only [List.getElem?_cons_zero, List.getElem?_cons_succ] at t0 t1 t2 t3 f0 f1 p0 p1
    have ff0 := Hf.out.frozen 0
    have ff1 := Hf.out.frozen 1
    go_wp2_with fail
    refine bodyPost_ret (v := .tuple #[.bool bo, fault 0 0]) (by simp [results, Try.results38, go_sem, fault, f0, f1, fl]) rfl ?_
    have hres : solvesR T l = (bo, 0, 0) := by
      unfold solvesR
      rw [Hq.out, if_neg (by simp), Hbo.out]
    rw [hres]
    have hbx := HB0.out
    refine ⟨rfl, ?_⟩
    repeat' (first | (with_reducible exact Hbl.out) | (with_reducible refine Below.drew ?_) | (with_reducible refine below_set ?_ ?_ _ _) | (have := HB0.out; omega))
  · have hne : (ec != 0) = true := by simpa using hec
    have ff0 := Hf.out.frozen 0
    have ff1 := Hf.out.frozen 1
    go_wp2_with fail
    go_region
    all_goals go_wp2_with fail
    all_goals refine bodyPost_ret (v := .tuple #[.bool false, fault ec ei]) (by simp [results, Try.results38, go_sem, fault, f0, f1, fl]) rfl ?_
    have hres : solvesR T l = (false, ec, ei) := by
      unfold solvesR
      rw [Hq.out, if_pos hec]
    rw [hres]
    have hbx := HB0.out
    refine ⟨rfl, ?_⟩
    repeat' (first | (with_reducible exact Hbl.out) | (with_reducible refine Below.drew ?_) | (with_reducible refine below_set ?_ ?_ _ _) | (have := HB0.out; omega))
set_option maxRecDepth 100000 in
set_option maxHeartbeats 3200000 in
theorem SCost_ct (a : TA) (T : Tsk) (B : Option Addr) (m d : Nat) (l : List Int) (w : World) (h : TkR w a T) (hl : Rd Enc.int w B m d l) :
    Calls Try.prog 39 #[.agg #[.int .i64 T.facts, .slice a.I a.nI a.cI, .slice a.G a.nG a.cG, .slice a.O a.nO a.cO], .slice B m d] w (Gives w (.tuple #[.int .i64 (scostR T l).1, fault (scostR T l).2.1 (scostR T l).2.2])) := by
  have hpf := SPlanFault_ct a T B m d l
  obtain ⟨I, nI, cI, G, nG, cG, O, nO, cO⟩ := a
  simp only at hpf ⊢
  rcases hq : planFault T l with ⟨ec, ei⟩
  rw [hq] at hpf
  have H := hide h
  have Hl := hide hl
  have Hll := hide hl.len
  have hlm := hl.low
  have hlO := h.ops.len
  have hlow := h.ops.low
  simp only at hlO hlow
  have HlO := hide hlO
  have Hq := hide hq
  have Hpf := hide hpf
  clear h hl hlO hq hpf
  have Hbl := hide (Below.refl w.heap.size w)
  go_enter Try.func39, Try.ntmps39
  go_upto_region 1 with (fail)
  obtain ⟨B0, hB0⟩ : ∃ B0, B0 = w.heap.size := ⟨_, rfl⟩
  have HB0 := hide hB0
  clear hB0
  have s_0 : B0 ≤ w.heap.size := Nat.le_trans (Nat.le_of_eq HB0.out) Hbl.out.size
  have hyt := Blk.new (w) 25 [.int .i64 T.facts, .slice I nI cI, .slice G nG cG, .slice O nO cO]
  have hyf := Blk.new ((w).alloc (.cells #[.int .i64 T.facts, .slice I nI cI, .slice G nG cG, .slice O nO cO] 25)) 29 [.int .i64 0, .int .i64 0]
  replace hyt := hyt.alloc (.cells #[.int .i64 0, .int .i64 0] 29)
  have hbW := below_two w (.cells #[.int .i64 T.facts, .slice I nI cI, .slice G nG cG, .slice O nO cO] 25) (.cells #[.int .i64 0, .int .i64 0] 29)
  simp only [World.size_alloc] at hyf
  obtain ⟨w0, hW⟩ : ∃ W, W = ((w).alloc (.cells #[.int .i64 T.facts, .slice I nI cI, .slice G nG cG, .slice O nO cO] 25)).alloc (.cells #[.int .i64 0, .int .i64 0] 29) := ⟨_, rfl⟩
  rw [← hW] at hyt hyf hbW ⊢
  replace Hbl := hide (Hbl.out.trans (hbW.mono Hbl.out.size))
  have Ht := hide hyt
  have Hf := hide hyf
  clear hW hbW hyt hyf
  generalize w.heap.size = gT at Ht Hf s_0 ⊢
  have t0 := Ht.out.cell 0
  have t1 := Ht.out.cell 1
  have t2 := Ht.out.cell 2
  have t3 := Ht.out.cell 3
  have tl := Ht.out.lt
  have f0 := Hf.out.cell 0
  have f1 := Hf.out.cell 1
  have fl := Hf.out.lt
  simp only [List.getElem?_cons_zero, List.getElem?_cons_succ] at t0 t1 t2 t3 f0 f1
  have a_t : B0 ≤ gT := by omega
  have a_f : B0 ≤ gT + 1 := by omega
  clear s_0
  have n_t_f : ¬ gT = gT + 1 := by omega
  have n_f_t : ¬ gT + 1 = gT := by omega
  go_wp2_with fail
  with_reducible refine (Hpf.out w0 (H.out.keep Hbl.out) (Hl.out.keep Hbl.out)).mono ?_
  rintro e w1 ⟨rfl, hb⟩
  clear t0 t1 t2 t3 f0 f1 tl fl
  replace Ht := hide (Ht.out.keep hb)
  replace Hf := hide (Hf.out.keep hb)
  replace Hbl := hide (Hbl.out.trans (hb.mono Hbl.out.size))
  clear hb
  unfold fault
  have t0 := Ht.out.cell 0
  have t1 := Ht.out.cell 1
  have t2 := Ht.out.cell 2
  have t3 := Ht.out.cell 3
  have tl := Ht.out.lt
  have f0 := Hf.out.cell 0
  have f1 := Hf.out.cell 1
  have fl := Hf.out.lt
  simp only [List.getElem?_cons_zero, List.getElem?_cons_succ] at t0 t1 t2 t3 f0 f1
  go_upto_region 2 with (fail)
  have n_t_p : ¬ gT = w1.heap.size := by omega
  have n_p_t : ¬ w1.heap.size = gT := by omega
  have n_f_p : ¬ gT + 1 = w1.heap.size := by omega
  have n_p_f : ¬ w1.heap.size = gT + 1 := by omega
  have s_t : gT < w1.heap.size := tl
  have s_f : gT + 1 < w1.heap.size := fl
  have s_0 : B0 ≤ w1.heap.size := Nat.le_trans (Nat.le_of_eq HB0.out) Hbl.out.size
  have hyp := Blk.new (w1) 29 [.int .i64 ec, .int .i64 ei]
  have hbW : Below (w1).heap.size (w1) ((w1).alloc (.cells #[.int .i64 ec, .int .i64 ei] 29)) := (Below.refl _ _).alloc (Nat.le_refl _) _
  obtain ⟨w2, hW⟩ : ∃ W, W = (w1).alloc (.cells #[.int .i64 ec, .int .i64 ei] 29) := ⟨_, rfl⟩
  rw [← hW] at hyp hbW ⊢
  replace Ht := hide (Ht.out.keep hbW)
  replace Hf := hide (Hf.out.keep hbW)
  replace Hbl := hide (Hbl.out.trans (hbW.mono Hbl.out.size))
  have Hp := hide hyp
  clear hW hbW hyp
  generalize w1.heap.size = gp at Hp n_t_p n_p_t n_f_p n_p_f s_t s_f s_0 ⊢
  have t0 := Ht.out.cell 0
  have t1 := Ht.out.cell 1
  have t2 := Ht.out.cell 2
  have t3 := Ht.out.cell 3
  have tl := Ht.out.lt
  have f0 := Hf.out.cell 0
  have f1 := Hf.out.cell 1
  have fl := Hf.out.lt
  have p0 := Hp.out.cell 0
  have p1 := Hp.out.cell 1
  have pl := Hp.out.lt
  simp only [List.getElem?_cons_zero, List.getElem?_cons_succ] at t0 t1 t2 t3 f0 f1 p0 p1
  clear s_t
  clear s_f
  have a_p : B0 ≤ gp := by omega
  clear s_0
  by_cases hec : ec = 0
  · subst hec
    obtain ⟨hz, htf, h60, hr⟩ := planFault_ok (T := T) (l := l) (by rw [Hq.out])
    rw [Hq.out] at hz
    obtain ⟨_, e2⟩ := Prod.mk.inj hz
    subst e2
    obtain ⟨N, hok⟩ := taskFault_ok htf
    rw [Hll.out] at h60
    have Hok := hide hok
    have Hr := hide hr
    clear hz htf hok hr
    have hc0 : ∀ o ∈ T.ops, 0 ≤ o.cost ∧ o.cost ≤ 100 := fun o ho => ⟨(Hok.out.ops o ho).low, (Hok.out.ops o ho).high⟩
    have Hc := hide hc0
    clear hc0
    go_wp2_with fail
    clear t0 t1 t2 t3 f0 f1 p0 p1 tl fl pl
    go_loopw [7, 19] (fun n i wr => ∃ (k : Nat) (s : Int), k ≤ m ∧ i = .int .i64 k ∧ n = .int .i64 s ∧ s = costF T.ops (l.take k) ∧ 0 ≤ s ∧ s ≤ 100 * (k : Int) ∧ Qt w2 wr) (fun _ i _ => m - (intOf i).toNat)
    case atStart => exact ⟨0, 0, by omega, rfl, rfl, by simp [costF], by omega, by simp, Qt.refl _⟩
    case round =>
      obtain ⟨k, s, hk, rfl, rfl, hs, hs0, hs1, hq⟩ := hrel
      have Hs := hide hs
      replace Ht := hide (Ht.out.qt hq)
      replace Hf := hide (Hf.out.qt hq)
      replace Hp := hide (Hp.out.qt hq)
      replace Hbl := hide (Hbl.out.trans (hq.below _))
      have Hqt := hide hq
      clear hs hq
      have t0 := Ht.out.cell 0
      have t1 := Ht.out.cell 1
      have t2 := Ht.out.cell 2
      have t3 := Ht.out.cell 3
      have tl := Ht.out.lt
      have f0 := Hf.out.cell 0
      have f1 := Hf.out.cell 1
      have fl := Hf.out.lt
      have p0 := Hp.out.cell 0
      have p1 := Hp.out.cell 1
      have pl := Hp.out.lt
      simp only [List.getElem?_cons_zero, List.getElem?_cons_succ] at t0 t1 t2 t3 f0 f1 p0 p1
      by_cases hlt : k < m
      · obtain ⟨b, off, x, rfl, hx, hx1, hx2, hcx⟩ := (Hl.out.keep Hbl.out).int hlt
        have hxr := Hr.out x (List.mem_of_getElem? hx)
        obtain ⟨q, rfl⟩ : ∃ q : Nat, x = (q : Int) := ⟨x.toNat, by omega⟩
        have hqn : q < nO := by have := HlO.out; omega
        obtain ⟨b', off', o, B1, m1, d1, B2, m2, d2, B3, m3, d3, rfl, hoq, g0, g1, g2, g3, r1, r2, r3, r4⟩ := (H.out.keep Hbl.out).ops.op hqn
        have hco := Hc.out o (List.mem_of_getElem? hoq)
        obtain ⟨hc0, hc1⟩ := hco
        have Hstep := hide (show costF T.ops (l.take (k + 1)) = s + o.cost by rw [costF_succ hx, opAt_eq hoq, Hs.out])
        clear hx hoq r1 r2 r3 r4 hxr
        have hmk : ((q : Nat) : Int) < (nO : Int) := by omega
        go_wp2_with fail
        go_roundw
        case rel => exact ⟨k + 1, s + o.cost, by omega, by go_num, by go_num, Hstep.out.symm, by omega, by omega, Hqt.out⟩
        case measure => simp [intOf]; omega
      · obtain rfl : k = m := by omega
        have hs9 := Hs.out
        rw [List.take_of_length_le (by rw [Hll.out]; omega)] at hs9
        have Hs9 := hide hs9
        clear hs9
        have ff0 := Hf.out.frozen 0
        have ff1 := Hf.out.frozen 1
        go_wp2_with fail
        refine bodyPost_ret (v := .tuple #[.int .i64 s, fault 0 0]) (by simp [results, Try.results39, go_sem, fault, f0, f1, fl]) rfl ?_
        have hres : scostR T l = (s, 0, 0) := by
          unfold scostR
          rw [Hq.out, if_neg (by simp), Hs9.out]
        rw [hres]
        have hbx := HB0.out
        refine ⟨rfl, ?_⟩
        repeat' (first | (with_reducible exact Hbl.out) | (with_reducible refine Below.drew ?_) | (with_reducible refine below_set ?_ ?_ _ _) | (have := HB0.out; omega))
  · have hne : (ec != 0) = true := by simpa using hec
    have ff0 := Hf.out.frozen 0
    have ff1 := Hf.out.frozen 1
    go_wp2_with fail
    go_region
    all_goals go_wp2_with fail
    all_goals refine bodyPost_ret (v := .tuple #[.int .i64 0, fault ec ei]) (by simp [results, Try.results39, go_sem, fault, f0, f1, fl]) rfl ?_
    have hres : scostR T l = (0, ec, ei) := by
      unfold scostR
      rw [Hq.out, if_pos hec]
    rw [hres]
    have hbx := HB0.out
    refine ⟨rfl, ?_⟩
    repeat' (first | (with_reducible exact Hbl.out) | (with_reducible refine Below.drew ?_) | (with_reducible refine below_set ?_ ?_ _ _) | (have := HB0.out; omega))
set_option maxRecDepth 100000 in
set_option maxHeartbeats 3200000 in
theorem Apply_ct (a : TA) (T : Tsk) (P : Option Addr) (np dp : Nat) (s : List Int) (x : Int) (w : World) (h : TkR w a T) (hs : Rd Enc.int w P np dp s) (hxx : I64s x) :
    Calls Try.prog 44 #[.agg #[.int .i64 T.facts, .slice a.I a.nI a.cI, .slice a.G a.nG a.cG, .slice a.O a.nO a.cO], .slice P np dp, .int .i64 x] w (ExpandP w (applyR T s x)) := by
  have hsf := StateFault_ct a T P np dp s
  have hcan := Can_ct a T
  have hnext := Next_ct a T
  obtain ⟨I, nI, cI, G, nG, cG, O, nO, cO⟩ := a
  simp only at hcan hnext hsf ⊢
  rcases hq : stateFault T s with ⟨ec, ei⟩
  rw [hq] at hsf
  have H := hide h
  have Hs := hide hs
  have hlO := h.ops.len
  have hlow := h.ops.low
  simp only at hlO hlow
  have HlO := hide hlO
  have Hq := hide hq
  have Hcan := hide hcan
  have Hnext := hide hnext
  have Hsf := hide hsf
  clear h hs hlO hq hcan hnext hsf
  have Hbl := hide (Below.refl w.heap.size w)
  go_enter Try.func44, Try.ntmps44
  go_upto_region 1 with (fail)
  obtain ⟨B0, hB0⟩ : ∃ B0, B0 = w.heap.size := ⟨_, rfl⟩
  have HB0 := hide hB0
  clear hB0
  have s_0 : B0 ≤ w.heap.size := Nat.le_trans (Nat.le_of_eq HB0.out) Hbl.out.size
  have hyt := Blk.new (w) 25 [.int .i64 T.facts, .slice I nI cI, .slice G nG cG, .slice O nO cO]
  have hyf := Blk.new ((w).alloc (.cells #[.int .i64 T.facts, .slice I nI cI, .slice G nG cG, .slice O nO cO] 25)) 29 [.int .i64 0, .int .i64 0]
  replace hyt := hyt.alloc (.cells #[.int .i64 0, .int .i64 0] 29)
  have hbW := below_two w (.cells #[.int .i64 T.facts, .slice I nI cI, .slice G nG cG, .slice O nO cO] 25) (.cells #[.int .i64 0, .int .i64 0] 29)
  simp only [World.size_alloc] at hyf
  obtain ⟨w0, hW⟩ : ∃ W, W = ((w).alloc (.cells #[.int .i64 T.facts, .slice I nI cI, .slice G nG cG, .slice O nO cO] 25)).alloc (.cells #[.int .i64 0, .int .i64 0] 29) := ⟨_, rfl⟩
  rw [← hW] at hyt hyf hbW ⊢
  replace Hbl := hide (Hbl.out.trans (hbW.mono Hbl.out.size))
  have Ht := hide hyt
  have Hf := hide hyf
  clear hW hbW hyt hyf
  generalize w.heap.size = gT at Ht Hf s_0 ⊢
  have t0 := Ht.out.cell 0
  have t1 := Ht.out.cell 1
  have t2 := Ht.out.cell 2
  have t3 := Ht.out.cell 3
  have tl := Ht.out.lt
  have f0 := Hf.out.cell 0
  have f1 := Hf.out.cell 1
  have fl := Hf.out.lt
  simp only [List.getElem?_cons_zero, List.getElem?_cons_succ] at t0 t1 t2 t3 f0 f1
  have a_t : B0 ≤ gT := by omega
  have a_f : B0 ≤ gT + 1 := by omega
  clear s_0
  have n_t_f : ¬ gT = gT + 1 := by omega
  have n_f_t : ¬ gT + 1 = gT := by omega
  go_wp2_with fail
  with_reducible refine (Hsf.out w0 (H.out.keep Hbl.out) (Hs.out.keep Hbl.out)).mono ?_
  rintro e w1 ⟨rfl, hb⟩
  clear t0 t1 t2 t3 f0 f1 tl fl
  replace Ht := hide (Ht.out.keep hb)
  replace Hf := hide (Hf.out.keep hb)
  replace Hbl := hide (Hbl.out.trans (hb.mono Hbl.out.size))
  clear hb
  unfold fault
  have t0 := Ht.out.cell 0
  have t1 := Ht.out.cell 1
  have t2 := Ht.out.cell 2
  have t3 := Ht.out.cell 3
  have tl := Ht.out.lt
  have f0 := Hf.out.cell 0
  have f1 := Hf.out.cell 1
  have fl := Hf.out.lt
  simp only [List.getElem?_cons_zero, List.getElem?_cons_succ] at t0 t1 t2 t3 f0 f1
  go_upto_region 2 with (fail)
  have n_t_p : ¬ gT = w1.heap.size := by omega
  have n_p_t : ¬ w1.heap.size = gT := by omega
  have n_f_p : ¬ gT + 1 = w1.heap.size := by omega
  have n_p_f : ¬ w1.heap.size = gT + 1 := by omega
  have s_t : gT < w1.heap.size := tl
  have s_f : gT + 1 < w1.heap.size := fl
  have s_0 : B0 ≤ w1.heap.size := Nat.le_trans (Nat.le_of_eq HB0.out) Hbl.out.size
  have hyp := Blk.new (w1) 29 [.int .i64 ec, .int .i64 ei]
  have hbW : Below (w1).heap.size (w1) ((w1).alloc (.cells #[.int .i64 ec, .int .i64 ei] 29)) := (Below.refl _ _).alloc (Nat.le_refl _) _
  obtain ⟨w2, hW⟩ : ∃ W, W = (w1).alloc (.cells #[.int .i64 ec, .int .i64 ei] 29) := ⟨_, rfl⟩
  rw [← hW] at hyp hbW ⊢
  replace Ht := hide (Ht.out.keep hbW)
  replace Hf := hide (Hf.out.keep hbW)
  replace Hbl := hide (Hbl.out.trans (hbW.mono Hbl.out.size))
  have Hp := hide hyp
  clear hW hbW hyp
  generalize w1.heap.size = gp at Hp n_t_p n_p_t n_f_p n_p_f s_t s_f s_0 ⊢
  have t0 := Ht.out.cell 0
  have t1 := Ht.out.cell 1
  have t2 := Ht.out.cell 2
  have t3 := Ht.out.cell 3
  have tl := Ht.out.lt
  have f0 := Hf.out.cell 0
  have f1 := Hf.out.cell 1
  have fl := Hf.out.lt
  have p0 := Hp.out.cell 0
  have p1 := Hp.out.cell 1
  have pl := Hp.out.lt
  simp only [List.getElem?_cons_zero, List.getElem?_cons_succ] at t0 t1 t2 t3 f0 f1 p0 p1
  clear s_t
  clear s_f
  have a_p : B0 ≤ gp := by omega
  clear s_0
  by_cases hec : ec = 0
  · subst hec
    obtain ⟨hz, htf, hset⟩ := stateFault_ok (T := T) (s := s) (by rw [Hq.out])
    rw [Hq.out] at hz
    obtain ⟨_, e2⟩ := Prod.mk.inj hz
    subst e2
    obtain ⟨N, hok⟩ := taskFault_ok htf
    have hf := hok.facts
    rw [hf] at hset
    have Hset := hide hset
    have Hok := hide hok
    clear hz htf hset hok hf
    by_cases hx0 : x < 0
    · skip
      have ff0 := Hf.out.frozen 0
      have ff1 := Hf.out.frozen 1
      go_wp2_with fail
      refine bodyPost_ret (v := .tuple #[.slice none 0 0, fault 3 (-6)]) (by simp [results, Try.results44, go_sem, fault, f0, f1, fl]) rfl ?_
      have hres : applyR T s x = ([], 3, -6) := by
        unfold applyR
        rw [Hq.out, if_neg (by simp)]
        rw [if_pos (.inl hx0)]
      rw [hres]
      have hbx := HB0.out
      refine ⟨?_, none, 0, 0, rfl, fun _ _ => Rd.nil_ _ _⟩
      repeat' (first | (with_reducible exact Hbl.out) | (with_reducible refine Below.drew ?_) | (with_reducible refine below_set ?_ ?_ _ _) | (have := HB0.out; omega))
    by_cases hxn : (nO : Int) ≤ x
    · skip
      have ff0 := Hf.out.frozen 0
      have ff1 := Hf.out.frozen 1
      go_wp2_with fail
      refine bodyPost_ret (v := .tuple #[.slice none 0 0, fault 3 (-6)]) (by simp [results, Try.results44, go_sem, fault, f0, f1, fl]) rfl ?_
      have hres : applyR T s x = ([], 3, -6) := by
        unfold applyR
        rw [Hq.out, if_neg (by simp)]
        rw [if_pos (.inr (by rw [HlO.out]; exact hxn))]
      rw [hres]
      have hbx := HB0.out
      refine ⟨?_, none, 0, 0, rfl, fun _ _ => Rd.nil_ _ _⟩
      repeat' (first | (with_reducible exact Hbl.out) | (with_reducible refine Below.drew ?_) | (with_reducible refine below_set ?_ ?_ _ _) | (have := HB0.out; omega))
    obtain ⟨q, rfl⟩ : ∃ q : Nat, x = (q : Int) := ⟨x.toNat, by omega⟩
    have hqn : q < nO := by omega
    have hxc : ¬ ((q : Int) < 0 ∨ (T.ops.length : Int) ≤ (q : Int)) := by rw [HlO.out]; omega
    have hct := Hcan.out N P np dp s q w2 (H.out.keep Hbl.out) (Hs.out.keep Hbl.out) (okt_sets Hok.out) (by have := Hok.out.low; omega) Hset.out hqn
    obtain ⟨bo, hbo⟩ : ∃ bo, bo = subsetB (opAt T.ops q).pre s := ⟨_, rfl⟩
    rw [← hbo] at hct
    have Hbo := hide hbo
    clear hbo
    go_wp2_with fail
    with_reducible refine (hct).mono ?_
    rintro e w3 ⟨rfl, hb⟩
    clear t0 t1 t2 t3 f0 f1 p0 p1 tl fl pl
    replace Ht := hide (Ht.out.keep hb)
    replace Hf := hide (Hf.out.keep hb)
    replace Hp := hide (Hp.out.keep hb)
    replace Hbl := hide (Hbl.out.trans (hb.mono Hbl.out.size))
    clear hb
    clear hct
    have t0 := Ht.out.cell 0
    have t1 := Ht.out.cell 1
    have t2 := Ht.out.cell 2
    have t3 := Ht.out.cell 3
    have tl := Ht.out.lt
    have f0 := Hf.out.cell 0
    have f1 := Hf.out.cell 1
    have fl := Hf.out.lt
    have p0 := Hp.out.cell 0
    have p1 := Hp.out.cell 1
    have pl := Hp.out.lt
    simp only [List.getElem?_cons_zero, List.getElem?_cons_succ] at t0 t1 t2 t3 f0 f1 p0 p1
    cases bo with
    | false =>
      have ff0 := Hf.out.frozen 0
      have ff1 := Hf.out.frozen 1
      go_wp2_with fail
      refine bodyPost_ret (v := .tuple #[.slice none 0 0, fault 11 q]) (by simp [results, Try.results44, go_sem, fault, f0, f1, fl]) rfl ?_
      have hres : applyR T s q = ([], 11, (q : Int)) := by
        unfold applyR
        rw [Hq.out, if_neg (by simp)]
        rw [if_neg hxc, if_pos Hbo.out.symm]
      rw [hres]
      have hbx := HB0.out
      refine ⟨?_, none, 0, 0, rfl, fun _ _ => Rd.nil_ _ _⟩
      repeat' (first | (with_reducible exact Hbl.out) | (with_reducible refine Below.drew ?_) | (with_reducible refine below_set ?_ ?_ _ _) | (have := HB0.out; omega))
    | true =>
      have hct := Hnext.out N P np dp s q w3 (H.out.keep Hbl.out) (Hs.out.keep Hbl.out) (okt_sets Hok.out) (by have := Hok.out.low; omega) Hset.out hqn
      go_wp2_with fail
      with_reducible refine hct.mono ?_
      rintro e w4 ⟨hb, A2, c2, rfl, hown⟩
      have hop := Hok.out.ops (opAt T.ops q) (opAt_mem (by omega) (by have := HlO.out; omega))
      have hset2 : setB N (updF s (opAt T.ops q).add (opAt T.ops q).del) = true := updF_set (setB_iff.1 Hset.out).2 (setB_iff.1 hop.add).2
      have hr2 := RdM.own (M := fun b => b < w3.heap.size) hown (fun r hr e => by
        have h1 := own_base hown (by rw [own_blkA]; exact hr)
        omega) rfl (set_ints hset2 (by have := Hok.out.low; omega))
      have Hr2 := hide hr2
      have s3f : gT + 1 < w3.heap.size := fl
      have s30 := Hbl.out.size
      clear hct hown hop hset2 hr2
      clear t0 t1 t2 t3 f0 f1 p0 p1 tl fl pl
      replace Ht := hide (Ht.out.keep hb)
      replace Hf := hide (Hf.out.keep hb)
      replace Hp := hide (Hp.out.keep hb)
      replace Hbl := hide (Hbl.out.trans (hb.mono Hbl.out.size))
      clear hb
      have t0 := Ht.out.cell 0
      have t1 := Ht.out.cell 1
      have t2 := Ht.out.cell 2
      have t3 := Ht.out.cell 3
      have tl := Ht.out.lt
      have f0 := Hf.out.cell 0
      have f1 := Hf.out.cell 1
      have fl := Hf.out.lt
      have p0 := Hp.out.cell 0
      have p1 := Hp.out.cell 1
      have pl := Hp.out.lt
      simp only [List.getElem?_cons_zero, List.getElem?_cons_succ] at t0 t1 t2 t3 f0 f1 p0 p1
      obtain ⟨nx, hnx⟩ : ∃ nx, nx = updF s (opAt T.ops q).add (opAt T.ops q).del := ⟨_, rfl⟩
      rw [← hnx] at Hr2 ⊢
      have Hnx := hide hnx
      clear hnx
      generalize nx.length = ln at Hr2 ⊢
      have ff0 := Hf.out.frozen 0
      have ff1 := Hf.out.frozen 1
      go_wp2_with fail
      refine bodyPost_ret (v := .tuple #[.slice A2 ln c2, fault 0 0]) (by simp [results, Try.results44, go_sem, fault, f0, f1, fl]) rfl ?_
      have hres : applyR T s q = (nx, 0, 0) := by
        unfold applyR
        rw [Hq.out, if_neg (by simp)]
        rw [if_neg hxc, if_neg (by rw [← Hbo.out]; simp), Hnx.out]
      rw [hres]
      have hbx := HB0.out
      refine ⟨?_, A2, ln, c2, rfl, fun w'' hc => ?_⟩
      · repeat' (first | (with_reducible exact Hbl.out) | (with_reducible refine Below.drew ?_) | (with_reducible refine below_set ?_ ?_ _ _) | (have := HB0.out; omega))
      · exact (Hr2.out.chg ((((Chg.set _ (gT + 1) 0 _).trans (Chg.set _ (gT + 1) 1 _)).mono (fun b e => by omega)).trans (hc.mono (fun b e => by omega)))).rd
  · have hne : (ec != 0) = true := by simpa using hec
    have ff0 := Hf.out.frozen 0
    have ff1 := Hf.out.frozen 1
    go_wp2_with fail
    go_region
    all_goals go_wp2_with fail
    all_goals refine bodyPost_ret (v := .tuple #[.slice none 0 0, fault ec ei]) (by simp [results, Try.results44, go_sem, fault, f0, f1, fl]) rfl ?_
    have hres : applyR T s x = ([], ec, ei) := by
      unfold applyR
      rw [Hq.out, if_pos hec]
    rw [hres]
    have hbx := HB0.out
    refine ⟨?_, none, 0, 0, rfl, fun _ _ => Rd.nil_ _ _⟩
    repeat' (first | (with_reducible exact Hbl.out) | (with_reducible refine Below.drew ?_) | (with_reducible refine below_set ?_ ?_ _ _) | (have := HB0.out; omega))
end Go.Proofs.Ytnfeknfakkdbhaa
