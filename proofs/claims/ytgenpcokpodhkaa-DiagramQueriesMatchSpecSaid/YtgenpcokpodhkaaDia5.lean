/- Contract of diagram.Not. -/
import Derived.Test.YtgenpcokpodhkaaDia3
import Derived.Test.YtgenpcokpodhkaaDia4
namespace Go.Proofs.Ytgenpcokpodhkaa
open Go.RowKit Go.Maps

theorem start3 (w : World) (L : Int) (A : Option Addr) (n c : Nat) (r : Int) :
    RBox w (((w.alloc (.cells #[.int .i64 L, .slice A n c, .int .i64 r] 30)).alloc (.cells #[.int .i64 0, .slice none 0 0, .int .i64 0] 30)).alloc (.cells #[.int .i64 0, .int .i64 0] 25)) (w.heap.size + 1) ∧
    Blk 30 (((w.alloc (.cells #[.int .i64 L, .slice A n c, .int .i64 r] 30)).alloc (.cells #[.int .i64 0, .slice none 0 0, .int .i64 0] 30)).alloc (.cells #[.int .i64 0, .int .i64 0] 25)) w.heap.size [.int .i64 L, .slice A n c, .int .i64 r] := by
  have h1 := Blk.new (w.alloc (.cells #[.int .i64 L, .slice A n c, .int .i64 r] 30)) 30 [.int .i64 0, .slice none 0 0, .int .i64 0]
  have h2 := Blk.new ((w.alloc (.cells #[.int .i64 L, .slice A n c, .int .i64 r] 30)).alloc (.cells #[.int .i64 0, .slice none 0 0, .int .i64 0] 30)) 25 [.int .i64 0, .int .i64 0]
  simp only [World.size_alloc] at h1 h2
  exact ⟨⟨h1.alloc _, h2, below_three _ _ _ _, by omega⟩, ((Blk.new w _ [.int .i64 L, .slice A n c, .int .i64 r]).alloc _).alloc _⟩

/-- '==' on faults -/
theorem eqFault (a b a' b' : Int) (w : World) : (Op.equalIn 10000 25 (.agg #[.int .i64 a, .int .i64 b]) (.agg #[.int .i64 a', .int .i64 b'])).run Try.prog w = .ok (decide ((a, b) = (a', b'))) w := by
  have u3 := Try.underlying3
  have a3 := Try.isAgg3
  have z3 := Try.sizeOf3
  have hS : Try.prog.underlying 25 = some (.struct (Try.prog.fieldsOf 25)) := by kernel_rfl
  have hp : Try.prog.stoodInHeld 25 = false := by kernel_rfl
  rw [show (10000 : Nat) = 9999 + 1 from rfl, run_equalIn_agg w 9999 25 _ _ hS hp]
  simp only [Program.fieldsOf, Try.underlying25]
  go_simp
  by_cases h1 : a = a' <;> by_cases h2 : b = b' <;> simp [h1, h2]

/-- what Not returns -/
def notR (L : Int) (ns : List DI) (r : Int) : DR :=
  if faultD L ns r = (0, 0) then limF L.toNat (diaF L.toNat (fun s => !sem (ns.map natN) r.toNat s)) else ((0, [], 0), faultD L ns r)

set_option maxHeartbeats 1600000 in
set_option maxRecDepth 100000 in
theorem Not_d (L : Int) (A : Option Addr) (n c : Nat) (ns : List DI) (r : Int) (w : World) (hL : -9223372036854775808 ≤ L ∧ L ≤ 9223372036854775807) (hr : -9223372036854775808 ≤ r ∧ r ≤ 9223372036854775807) (h : Rd Enc.node w A n c ns) :
    Calls Try.prog 23 #[.agg #[.int .i64 L, .slice A n c, .int .i64 r]] w (GivesDF w (notR L ns r)) := by
  have hcap := h.cap
  have hsm := h.small
  have hl := h.len
  obtain ⟨hst0, hbx0⟩ := start3 w L A n c r
  have Hrd := hide h
  have Hst0 := hide hst0
  have Hbx0 := hide hbx0
  clear h hst0 hbx0
  go_enter Try.func23, Try.ntmps23
  go_wp2_with fail
  obtain ⟨V, hV⟩ : ∃ V, V = (((w.alloc (.cells #[.int .i64 L, .slice A n c, .int .i64 r] 30)).alloc (.cells #[.int .i64 0, .slice none 0 0, .int .i64 0] 30)).alloc (.cells #[.int .i64 0, .int .i64 0] 25)) := ⟨_, rfl⟩
  rw [← hV]
  have hst := Hst0.out
  have hbx := Hbx0.out
  rw [← hV] at hst hbx
  have Hst := hide hst
  have Hbx := hide hbx
  clear hV hst hbx Hst0 Hbx0
  refine (Validate_ct L A n c ns r V hL hr (Hrd.out.keep Hst.out.below)).mono ?_
  rintro e w1 ⟨rfl, hb1⟩
  generalize hf : faultD L ns r = f
  obtain ⟨f1, f2⟩ := f
  have Hf := hide hf
  clear hf
  unfold faultV
  have hbz : Below w1.heap.size w1 (w1.alloc (.cells #[.int .i64 f1, .int .i64 f2] 25)) := (Below.refl _ _).alloc (Nat.le_refl _) _
  have hb2 := hb1.trans (hbz.mono hb1.size)
  have hbx1 := Hbx.out.keep hb1
  have hrb1 := Hst.out.keep hb1
  have d0 := hbx1.cell 0
  have d1 := hbx1.cell 1
  have d2 := hbx1.cell 2
  have d3 := hbx1.lt
  simp only [List.getElem?_cons_zero, List.getElem?_cons_succ] at d0 d1 d2
  have heq := eqFault f1 f2 0 0
  obtain ⟨w2, hw2⟩ : ∃ w2, w2 = w1.alloc (.cells #[.int .i64 f1, .int .i64 f2] 25) := ⟨_, rfl⟩
  have hbf : Blk 25 w2 w1.heap.size [.int .i64 f1, .int .i64 f2] := by rw [hw2]; exact Blk.new _ _ _
  rw [← hw2] at hb2
  have hbx2 := Hbx.out.keep hb2
  have hrb2 := Hst.out.keep hb2
  have e1 := hrb1.fault.lt
  have e2 : ¬ w1.heap.size = w.heap.size + 1 := by omega
  have e3 : ¬ w.heap.size + 1 = w1.heap.size := by omega
  have e4 : ¬ w1.heap.size = w.heap.size + 1 + 1 := by omega
  have e5 : ¬ w.heap.size + 1 + 1 = w1.heap.size := by omega
  have Hw2 := hide hw2
  have Hb2 := hide hb2
  have Hbf := hide hbf
  have Hbx2 := hide hbx2
  have Hrb2 := hide hrb2
  clear hbf hbx2 hrb2 hw2 hb1 hbz hb2 hbx1 hrb1
  by_cases hz : (f1, f2) = (0, 0)
  · rw [decide_eq_true hz] at heq
    have hvalid := faultD_valid (by rw [Hf.out]; exact hz)
    have Hvalid := hide hvalid
    have hnot : notR L ns r = limF L.toNat (diaF L.toNat (fun s => !sem (ns.map natN) r.toNat s)) := by unfold notR; rw [if_pos (by rw [Hf.out]; exact hz)]
    have Hnot := hide hnot
    clear hz hvalid hnot
    go_wp2_with fail
    rw [← Hw2.out]
    have hc : Calls Try.prog 52 #[.agg #[.int .i64 L, .slice A n c, .int .i64 r], .func (Fn.func 53) #[] #[]] w2 (GivesDF w2 (notR L ns r)) := by
      obtain ⟨hv, hcast, hLe, hre⟩ := Hvalid.out
      rw [Hnot.out]
      have hh := change0_ct (L := L.toNat) (n := n) (c := c) (r := r.toNat) (A := A) (w := w2) (ds := ns.map natN) (φ := fun s => !sem (ns.map natN) r.toNat s) hv.low (by have := hv.few; rw [List.length_map] at this; omega) hv.ok (by rw [List.length_map]; exact hl) hv.root
        (by rw [hcast]; exact Hrd.out.keep (Hst.out.below.trans (Hb2.out.mono Hst.out.below.size)))
        (fun W B g bf bp ms k C _ hst hC hk hq => (Not_ct hst hk (by omega)).mono (fun e w' hp => hp.mono (Nat.le_refl _) (fun ns' k' h s => by rw [h, hq])))
      rw [hLe, hre] at hh
      exact hh
    refine hc.mono ?_
    clear hc
    generalize hx : notR L ns r = x
    obtain ⟨⟨xl, xn, xr⟩, xf1, xf2⟩ := x
    have Hx := hide hx
    clear hx
    rintro e w3 ⟨⟨A3, n3, c3, rfl, hrd3, hnew3⟩, hb3⟩
    have hrb3 := Hrb2.out.keep hb3
    obtain ⟨x0, x1, x2, x3, x4, x5, x6, x7, x8, x9, x10, x11⟩ := hrb3.facts
    have Hrb3 := hide hrb3
    have Hrd3 := hide hrd3
    have Hnew3 := hide hnew3
    clear hrb3 hrd3 hnew3 hb3
    simp only [faultV]
    go_wp2
    refine bodyPost_ret (v := .tuple #[.agg #[.int .i64 xl, .slice A3 n3 c3, .int .i64 xr], faultV (xf1, xf2)]) (by simp [results, Try.results23, go_sem, faultV, x0, x1, x2, x3, x4]) rfl ?_
    rw [Hx.out]
    have hge := Hb2.out.size
    have hge2 := Hst.out.below.size
    refine ⟨⟨A3, n3, c3, rfl, ?_, fun b off e => by have := Hnew3.out b off e; omega⟩, Hrb3.out.put _ _ _ _ _⟩
    exact rd_put Hrd3.out _ _ _ _ _ (fun b off e _ => by
      have h1 := Hnew3.out b off e
      have h2 := Hrb2.out.fault.lt
      omega)
  · rw [decide_eq_false hz] at heq
    have hnot : notR L ns r = ((0, [], 0), (f1, f2)) := by unfold notR; rw [Hf.out, if_neg hz]
    have Hnot := hide hnot
    clear hz hnot
    go_wp2_with fail
    rw [← Hw2.out]
    obtain ⟨x0, x1, x2, x3, x4, x5, x6, x7, x8, x9, x10, x11⟩ := Hrb2.out.facts
    have y0 := Hbf.out.cell 0
    have y1 := Hbf.out.cell 1
    have y2 := Hbf.out.lt
    simp only [List.getElem?_cons_zero, List.getElem?_cons_succ] at y0 y1
    go_region
    all_goals go_wp2
    all_goals
      refine bodyPost_ret (v := .tuple #[.agg #[.int .i64 0, .slice none 0 0, .int .i64 0], faultV (f1, f2)]) (by simp [results, Try.results23, go_sem, faultV, x0, x1, x2, x3, x4]) rfl ?_
      exact ⟨⟨none, 0, 0, by rw [Hnot.out], by rw [Hnot.out]; exact Rd.nil_ _ _, fun b off e => by cases e⟩, (Hrb2.out.put _ _ _ _ _).drew⟩
end Go.Proofs.Ytgenpcokpodhkaa
