/- Contract of diagram.Count. -/
import Derived.Test.YtgenpcokpodhkaaDia8
namespace Go.Proofs.Ytgenpcokpodhkaa
open Go.RowKit Go.Maps

/-- what Count returns -/
def countR (L : Int) (ns : List DI) (r : Int) : Int × (Int × Int) :=
  if faultD L ns r = (0, 0) then ((count L.toNat (ns.map natN) r.toNat : Nat), (0, 0)) else (0, faultD L ns r)

set_option maxHeartbeats 1600000 in
set_option maxRecDepth 100000 in
theorem Count_d (L : Int) (A : Option Addr) (n c : Nat) (ns : List DI) (r : Int) (w : World) (hL : -9223372036854775808 ≤ L ∧ L ≤ 9223372036854775807) (hr : -9223372036854775808 ≤ r ∧ r ≤ 9223372036854775807) (h : Rd Enc.node w A n c ns) :
    Calls Try.prog 26 #[.agg #[.int .i64 L, .slice A n c, .int .i64 r]] w (Gives w (.tuple #[.int .i64 (countR L ns r).1, faultV (countR L ns r).2])) := by
  have hl := h.len
  have hst0 := VBox.start w L A n c r
  have Hrd := hide h
  have Hst0 := hide hst0
  clear h hst0
  go_enter Try.func26, Try.ntmps26
  go_wp2_with fail
  obtain ⟨V, hV⟩ : ∃ V, V = ((w.alloc (.cells #[.int .i64 L, .slice A n c, .int .i64 r] 30)).alloc (.cells #[.int .i64 0, .int .i64 0] 25)) := ⟨_, rfl⟩
  rw [← hV]
  have hst := Hst0.out
  rw [← hV] at hst
  have Hst := hide hst
  clear hV hst Hst0
  refine (Validate_ct L A n c ns r V hL hr (Hrd.out.keep Hst.out.below)).mono ?_
  rintro e w1 ⟨rfl, hb1⟩
  generalize hf : faultD L ns r = f
  obtain ⟨f1, f2⟩ := f
  have Hf := hide hf
  clear hf
  unfold faultV
  have hb2 := hb1.trans (((Below.refl w1.heap.size w1).alloc (Nat.le_refl _) (.cells #[.int .i64 f1, .int .i64 f2] 25)).mono hb1.size)
  obtain ⟨d0, d1, d2, d3, d4, d5, d6, d7, d8⟩ := (Hst.out.keep hb1).facts
  have heq := eqFault f1 f2 0 0
  obtain ⟨w2, hw2⟩ : ∃ w2, w2 = w1.alloc (.cells #[.int .i64 f1, .int .i64 f2] 25) := ⟨_, rfl⟩
  have hbf : Blk 25 w2 w1.heap.size [.int .i64 f1, .int .i64 f2] := by rw [hw2]; exact Blk.new _ _ _
  rw [← hw2] at hb2
  have e2 : ¬ w1.heap.size = w.heap.size + 1 := by omega
  have e3 : ¬ w.heap.size + 1 = w1.heap.size := by omega
  have Hw2 := hide hw2
  have Hb2 := hide hb2
  have Hbf := hide hbf
  have Hvb2 := hide (Hst.out.keep hb2)
  clear hbf hw2 hb1 hb2
  by_cases hz : (f1, f2) = (0, 0)
  · rw [decide_eq_true hz] at heq
    have hvalid := faultD_valid (L := L) (ns := ns) (r := r) (by rw [Hf.out]; exact hz)
    have hres : countR L ns r = (((count L.toNat (ns.map natN) r.toNat : Nat) : Int), (0, 0)) := by
      unfold countR
      rw [if_pos (by rw [Hf.out]; exact hz)]
    have HRes0 := hide hres
    have Hvalid := hide hvalid
    clear hz hres hvalid
    go_wp2_with fail
    rw [← Hw2.out]
    have hres := HRes0.out
    have hvalid := Hvalid.out
    clear HRes0 Hvalid
    obtain ⟨hv1, hcast1, hLe, hre1⟩ := hvalid
    obtain ⟨L', hL'⟩ : ∃ m : Nat, L = (m : Int) := ⟨L.toNat, hLe.symm⟩
    obtain ⟨r', hr'⟩ : ∃ m : Nat, r = (m : Int) := ⟨r.toNat, hre1.symm⟩
    subst hL' hr'
    simp only [Int.toNat_natCast] at hv1 hres
    generalize hd1 : ns.map natN = ds1 at hv1 hcast1 hres
    have hlen1 : ds1.length = n := by rw [← hd1, List.length_map]; exact hl
    have hn1 : n ≤ 300 := by have := hv1.few; omega
    have hlow := hv1.low
    have hrd1 : ∀ W, Below V.heap.size V W → Rd Enc.node W A n c (ds1.map castN) := fun W hW => by
      rw [hcast1]
      exact Hrd.out.keep (Hst.out.below.trans (hW.mono Hst.out.below.size))
    have Hv1 := hide hv1
    have HR1 := hide hrd1
    have HRes := hide hres
    clear hv1 hcast1 hLe hre1 hres hd1 hrd1 d0 d1 d2 d3 d4 d5 d6 d7 d8 e2 e3 heq
    refine (NewStore_ct L' hlow w2).mono ?_
    rintro e w5 ⟨hb5, g, bf, bp, rfl, hst5⟩
    have hb5' := Hb2.out.trans (hb5.mono Hb2.out.size)
    obtain ⟨d0, d1, d2, d3, d4, d5, d6, d7, d8⟩ := (Hst.out.keep hb5').facts
    have Hst5 := hide hst5
    have Hb5 := hide hb5'
    have Hb25 := hide hb5
    clear hst5 hb5 hb5'
    have hV2 : V.heap.size ≤ w2.heap.size := Hb2.out.size
    go_wp2_with fail
    refine (Read_ct (C := 0) (n := n) (c := c) (root := r') (ds := ds1) Hst5.out Hv1.out.ok hlen1 Hv1.out.root (fun W hW => HR1.out W (Hb5.out.trans (hW.mono hV2))) (by omega) (by omega)).mono ?_
    rintro e w6 ⟨ms6, k6, rfl, hst6, hk6, hkl6, hq6⟩
    have hb6 : Below V.heap.size V w6 := Hb5.out.trans ((hk6.below Hb25.out.size).mono hV2)
    have Hst6 := hide hst6
    have Hb6 := hide hb6
    have Hq6 := hide hq6
    clear hst6 hb6 hq6 hk6 d0 d1 d2 d3 d4 d5 d6 d7 d8
    go_wp2_with fail
    refine (Count_ct Hst6.out hkl6).mono ?_
    rintro e w7 ⟨rfl, hb7⟩
    have hb7' := Hb6.out.trans (hb7.mono Hb6.out.size)
    have hcount := count_same Hst6.out.ok Hv1.out.ok hkl6 Hv1.out.root Hq6.out
    rw [hcount]
    obtain ⟨d0, d1, d2, d3, d4, d5, d6, d7, d8⟩ := (Hst.out.keep hb7').facts
    have Hvb7 := hide (Hst.out.keep hb7')
    clear hb7 hb7' hcount
    go_wp2
    refine bodyPost_ret (v := .tuple #[.int .i64 (count L' ds1 r' : Nat), faultV (0, 0)]) (by simp [results, Try.results26, go_sem, faultV, d3, d4]) rfl ?_
    rw [HRes.out]
    exact ⟨rfl, (Hvb7.out.below.setCell (by simp) _).setCell (by simp) _⟩
  · rw [decide_eq_false hz] at heq
    have hres : countR L ns r = (0, (f1, f2)) := by unfold countR; rw [Hf.out, if_neg hz]
    have HRes := hide hres
    clear hz hres
    go_wp2_with fail
    rw [← Hw2.out]
    obtain ⟨x0, x1, x2, x3, x4, x5, x6, x7, x8⟩ := Hvb2.out.facts
    have y0 := Hbf.out.cell 0
    have y1 := Hbf.out.cell 1
    have y2 := Hbf.out.lt
    simp only [List.getElem?_cons_zero, List.getElem?_cons_succ] at y0 y1
    go_region
    all_goals go_wp2
    all_goals
      refine bodyPost_ret (v := .tuple #[.int .i64 0, faultV (f1, f2)]) (by simp [results, Try.results26, go_sem, faultV, x3, x4]) rfl ?_
      rw [HRes.out]
      exact ⟨rfl, ((Hvb2.out.below.setCell (by simp) _).setCell (by simp) _).drew⟩
end Go.Proofs.Ytgenpcokpodhkaa
