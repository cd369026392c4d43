/- Contract of diagram.Exists. -/
import Derived.Test.YtgenpcokpodhkaaDia5
namespace Go.Proofs.Ytgenpcokpodhkaa
open Go.RowKit Go.Maps

theorem start4 (w : World) (L : Int) (A : Option Addr) (n c : Nat) (r lv : Int) :
    RBox w ((((w.alloc (.cells #[.int .i64 L, .slice A n c, .int .i64 r] 30)).alloc (.cells #[.int .i64 lv] 3)).alloc (.cells #[.int .i64 0, .slice none 0 0, .int .i64 0] 30)).alloc (.cells #[.int .i64 0, .int .i64 0] 25)) (w.heap.size + 1 + 1) ∧
    Blk 30 ((((w.alloc (.cells #[.int .i64 L, .slice A n c, .int .i64 r] 30)).alloc (.cells #[.int .i64 lv] 3)).alloc (.cells #[.int .i64 0, .slice none 0 0, .int .i64 0] 30)).alloc (.cells #[.int .i64 0, .int .i64 0] 25)) w.heap.size [.int .i64 L, .slice A n c, .int .i64 r] ∧
    Blk 3 ((((w.alloc (.cells #[.int .i64 L, .slice A n c, .int .i64 r] 30)).alloc (.cells #[.int .i64 lv] 3)).alloc (.cells #[.int .i64 0, .slice none 0 0, .int .i64 0] 30)).alloc (.cells #[.int .i64 0, .int .i64 0] 25)) (w.heap.size + 1) [.int .i64 lv] := by
  have h0 := Blk.new (w.alloc (.cells #[.int .i64 L, .slice A n c, .int .i64 r] 30)) 3 [.int .i64 lv]
  have h1 := Blk.new ((w.alloc (.cells #[.int .i64 L, .slice A n c, .int .i64 r] 30)).alloc (.cells #[.int .i64 lv] 3)) 30 [.int .i64 0, .slice none 0 0, .int .i64 0]
  have h2 := Blk.new (((w.alloc (.cells #[.int .i64 L, .slice A n c, .int .i64 r] 30)).alloc (.cells #[.int .i64 lv] 3)).alloc (.cells #[.int .i64 0, .slice none 0 0, .int .i64 0] 30)) 25 [.int .i64 0, .int .i64 0]
  simp only [World.size_alloc] at h0 h1 h2
  exact ⟨⟨h1.alloc _, h2, (below_three _ _ _ _).alloc (by simp only [World.size_alloc]; omega) _, by omega⟩, (((Blk.new w _ [.int .i64 L, .slice A n c, .int .i64 r]).alloc _).alloc _).alloc _, (h0.alloc _).alloc _⟩

set_option maxHeartbeats 800000 in
theorem Ex1_ct {L B g bf bp p : Nat} {W : World} {ms : List BN} {C k lv : Nat} (h : St L B g bf bp W ms C) (hk : k < ms.length + 2) (hlv : lv < L) (hp : Blk 3 W p [.int .i64 (lv : Nat)]) (hC : C + 33554434 ≤ 1000000000000) :
    Calls Try.prog 54 #[.pointer (some ⟨g, 0, none⟩), .int .i64 k, .pointer (some ⟨p, 0, none⟩)] W (StP L B g bf bp W ms (C + 33554434) fun ns' k' => ∀ s, sem ns' k' s = existsF lv (sem ms k) s) := by
  have h0 := hp.cell 0
  simp only [List.getElem?_cons_zero] at h0
  have hc := Exists_ct h hk hlv hC
  have Hc := hide hc
  clear hc hp
  go_enter Try.func54, Try.ntmps54
  go_wp2_with fail
  refine Hc.out.mono ?_
  rintro e w' ⟨ms', k', rfl, h2, h3, h4, h5⟩
  have H := hide (And.intro h2 (And.intro h3 (And.intro h4 h5)))
  clear h2 h3 h4 h5 h
  go_wp2
  go_ret
  exact ⟨ms', k', rfl, H.out.1, H.out.2.1, H.out.2.2.1, H.out.2.2.2⟩

/-- what Exists returns -/
def existsR (L : Int) (ns : List DI) (r lv : Int) : DR :=
  if faultD L ns r = (0, 0) then (if lv < 0 ∨ L ≤ lv then ((0, [], 0), (3, -6)) else limF L.toNat (diaF L.toNat (existsF lv.toNat (sem (ns.map natN) r.toNat)))) else ((0, [], 0), faultD L ns r)

set_option maxHeartbeats 1600000 in
set_option maxRecDepth 100000 in
theorem Exists_d (L lv : Int) (A : Option Addr) (n c : Nat) (ns : List DI) (r : Int) (w : World) (hL : -9223372036854775808 ≤ L ∧ L ≤ 9223372036854775807) (hr : -9223372036854775808 ≤ r ∧ r ≤ 9223372036854775807) (hlv : -9223372036854775808 ≤ lv ∧ lv ≤ 9223372036854775807) (h : Rd Enc.node w A n c ns) :
    Calls Try.prog 24 #[.agg #[.int .i64 L, .slice A n c, .int .i64 r], .int .i64 lv] w (GivesDF w (existsR L ns r lv)) := by
  have hcap := h.cap
  have hsm := h.small
  have hl := h.len
  obtain ⟨hst0, hbx0, hlx0⟩ := start4 w L A n c r lv
  have Hrd := hide h
  have Hst0 := hide hst0
  have Hbx0 := hide hbx0
  have Hlx0 := hide hlx0
  clear h hst0 hbx0 hlx0
  go_enter Try.func24, Try.ntmps24
  go_wp2_with fail
  obtain ⟨V, hV⟩ : ∃ V, V = ((((w.alloc (.cells #[.int .i64 L, .slice A n c, .int .i64 r] 30)).alloc (.cells #[.int .i64 lv] 3)).alloc (.cells #[.int .i64 0, .slice none 0 0, .int .i64 0] 30)).alloc (.cells #[.int .i64 0, .int .i64 0] 25)) := ⟨_, rfl⟩
  rw [← hV]
  have hst := Hst0.out
  have hbx := Hbx0.out
  have hlx := Hlx0.out
  rw [← hV] at hst hbx hlx
  have Hst := hide hst
  have Hbx := hide hbx
  have Hlx := hide hlx
  clear hV hst hbx hlx Hst0 Hbx0 Hlx0
  refine (Validate_ct L A n c ns r V hL hr (Hrd.out.keep Hst.out.below)).mono ?_
  rintro e w1 ⟨rfl, hb1⟩
  generalize hf : faultD L ns r = f
  obtain ⟨f1, f2⟩ := f
  have Hf := hide hf
  clear hf
  unfold faultV
  have hbz : Below w1.heap.size w1 (w1.alloc (.cells #[.int .i64 f1, .int .i64 f2] 25)) := (Below.refl _ _).alloc (Nat.le_refl _) _
  have hb2 := hb1.trans (hbz.mono hb1.size)
  have hbx1 := Hbx.out.keep hb1
  have hrb1 := Hst.out.keep hb1
  have d0 := hbx1.cell 0
  have d1 := hbx1.cell 1
  have d2 := hbx1.cell 2
  have d3 := hbx1.lt
  have hlx1 := Hlx.out.keep hb1
  have d4 := hlx1.cell 0
  have d5 := hlx1.lt
  simp only [List.getElem?_cons_zero, List.getElem?_cons_succ] at d0 d1 d2 d4
  have heq := eqFault f1 f2 0 0
  obtain ⟨w2, hw2⟩ : ∃ w2, w2 = w1.alloc (.cells #[.int .i64 f1, .int .i64 f2] 25) := ⟨_, rfl⟩
  have hbf : Blk 25 w2 w1.heap.size [.int .i64 f1, .int .i64 f2] := by rw [hw2]; exact Blk.new _ _ _
  rw [← hw2] at hb2
  have hbx2 := Hbx.out.keep hb2
  have hlx2 := Hlx.out.keep hb2
  have Hlx2 := hide hlx2
  have hrb2 := Hst.out.keep hb2
  have e1 := hrb1.fault.lt
  have e2 : ¬ w1.heap.size = w.heap.size + 1 + 1 := by omega
  have e3 : ¬ w.heap.size + 1 + 1 = w1.heap.size := by omega
  have e4 : ¬ w1.heap.size = w.heap.size + 1 + 1 + 1 := by omega
  have e5 : ¬ w.heap.size + 1 + 1 + 1 = w1.heap.size := by omega
  have Hw2 := hide hw2
  have Hb2 := hide hb2
  have Hbf := hide hbf
  have Hrb1 := hide hrb1
  have Hbx2 := hide hbx2
  have Hrb2 := hide hrb2
  clear hbf hbx2 hlx2 hrb2 hw2 hb1 hbz hb2 hbx1 hrb1 hlx1
  by_cases hz : (f1, f2) = (0, 0)
  · rw [decide_eq_true hz] at heq
    have hvalid := faultD_valid (by rw [Hf.out]; exact hz)
    have Hvalid := hide hvalid
    by_cases hr1 : lv < 0 ∨ L ≤ lv
    · have hnot : existsR L ns r lv = ((0, [], 0), (3, -6)) := by unfold existsR; rw [if_pos (by rw [Hf.out]; exact hz), if_pos hr1]
      have Hnot := hide hnot
      clear hz hvalid hnot
      rcases (show lv < 0 ∨ (0 ≤ lv ∧ L ≤ lv) by omega) with hz | ⟨hz0, hz⟩
      all_goals
        clear hr1
        obtain ⟨x0, x1, x2, x3, x4, x5, x6, x7, x8, x9, x10, x11⟩ := Hrb1.out.facts
        go_wp2
        refine bodyPost_ret (v := .tuple #[.agg #[.int .i64 0, .slice none 0 0, .int .i64 0], faultV (3, -6)]) (by simp [results, Try.results24, go_sem, faultV, x0, x1, x2, x3, x4, x10, x11]) rfl ?_
        exact ⟨⟨none, 0, 0, by rw [Hnot.out], by rw [Hnot.out]; exact Rd.nil_ _ _, fun b off e => by cases e⟩, (Hrb1.out.put _ _ _ _ _).alloc (by have := Hrb1.out.below.size; simpa [World.setCell, World.putRes] using this) _⟩
    · have hnot : existsR L ns r lv = limF L.toNat (diaF L.toNat (existsF lv.toNat (sem (ns.map natN) r.toNat))) := by unfold existsR; rw [if_pos (by rw [Hf.out]; exact hz), if_neg hr1]
      have Hnot := hide hnot
      have hz0 : 0 ≤ lv := by omega
      have hz1 : lv < L := by omega
      clear hz hvalid hnot hr1
      go_wp2_with fail
      rw [← Hw2.out]
      have hc : Calls Try.prog 52 #[.agg #[.int .i64 L, .slice A n c, .int .i64 r], .func (Fn.func 54) #[] #[.pointer (some ⟨w.heap.size + 1, 0, none⟩)]] w2 (GivesDF w2 (existsR L ns r lv)) := by
        obtain ⟨hv, hcast, hLe, hre⟩ := Hvalid.out
        rw [Hnot.out]
        have hh := change1_ct (p := .pointer (some ⟨w.heap.size + 1, 0, none⟩)) (L := L.toNat) (n := n) (c := c) (r := r.toNat) (A := A) (w := w2) (ds := ns.map natN) (φ := existsF lv.toNat (sem (ns.map natN) r.toNat)) hv.low (by have := hv.few; rw [List.length_map] at this; omega) hv.ok (by rw [List.length_map]; exact hl) hv.root
          (by rw [hcast]; exact Hrd.out.keep (Hst.out.below.trans (Hb2.out.mono Hst.out.below.size)))
          (fun W B g bf bp ms k C hW hst hC hk hq => (Ex1_ct (lv := lv.toNat) hst hk (by omega) (by rw [Int.toNat_of_nonneg hz0]; exact (Hlx2.out.keep hW)) (by omega)).mono (fun e w' hp => hp.mono (Nat.le_refl _) (fun ns' k' h s => by rw [h, show sem ms k = sem (ns.map natN) r.toNat from funext hq])))
        rw [hLe, hre] at hh
        exact hh
      refine hc.mono ?_
      clear hc
      generalize hx : existsR L ns r lv = x
      obtain ⟨⟨xl, xn, xr⟩, xf1, xf2⟩ := x
      have Hx := hide hx
      clear hx
      rintro e w3 ⟨⟨A3, n3, c3, rfl, hrd3, hnew3⟩, hb3⟩
      have hrb3 := Hrb2.out.keep hb3
      obtain ⟨x0, x1, x2, x3, x4, x5, x6, x7, x8, x9, x10, x11⟩ := hrb3.facts
      have Hrb3 := hide hrb3
      have Hrd3 := hide hrd3
      have Hnew3 := hide hnew3
      clear hrb3 hrd3 hnew3 hb3
      simp only [faultV]
      go_wp2
      refine bodyPost_ret (v := .tuple #[.agg #[.int .i64 xl, .slice A3 n3 c3, .int .i64 xr], faultV (xf1, xf2)]) (by simp [results, Try.results24, go_sem, faultV, x0, x1, x2, x3, x4]) rfl ?_
      rw [Hx.out]
      have hge := Hb2.out.size
      have hge2 := Hst.out.below.size
      refine ⟨⟨A3, n3, c3, rfl, ?_, fun b off e => by have := Hnew3.out b off e; omega⟩, Hrb3.out.put _ _ _ _ _⟩
      exact rd_put Hrd3.out _ _ _ _ _ (fun b off e _ => by
        have h1 := Hnew3.out b off e
        have h2 := Hrb2.out.fault.lt
        omega)
  · rw [decide_eq_false hz] at heq
    have hnot : existsR L ns r lv = ((0, [], 0), (f1, f2)) := by unfold existsR; rw [Hf.out, if_neg hz]
    have Hnot := hide hnot
    clear hz hnot
    go_wp2_with fail
    rw [← Hw2.out]
    obtain ⟨x0, x1, x2, x3, x4, x5, x6, x7, x8, x9, x10, x11⟩ := Hrb2.out.facts
    have y0 := Hbf.out.cell 0
    have y1 := Hbf.out.cell 1
    have y2 := Hbf.out.lt
    simp only [List.getElem?_cons_zero, List.getElem?_cons_succ] at y0 y1
    go_region
    all_goals go_wp2
    all_goals
      refine bodyPost_ret (v := .tuple #[.agg #[.int .i64 0, .slice none 0 0, .int .i64 0], faultV (f1, f2)]) (by simp [results, Try.results24, go_sem, faultV, x0, x1, x2, x3, x4]) rfl ?_
      exact ⟨⟨none, 0, 0, by rw [Hnot.out], by rw [Hnot.out]; exact Rd.nil_ _ _, fun b off e => by cases e⟩, (Hrb2.out.put _ _ _ _ _).drew⟩
end Go.Proofs.Ytgenpcokpodhkaa
