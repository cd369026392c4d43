/- Contract of diagram.Pick. -/
import Derived.Test.YtgenpcokpodhkaaDia9
import Derived.Test.YtgenpcokpodhkaaStore15
namespace Go.Proofs.Ytgenpcokpodhkaa
open Go.RowKit Go.Maps

/-- what Pick returns -/
def pickR (L : Int) (ns : List DI) (r : Int) : List Int × Bool × (Int × Int) :=
  if faultD L ns r = (0, 0) then (if (pick (ns.map natN) r.toNat).2 = 1 then ((pick (ns.map natN) r.toNat).1.map Int.ofNat, true, (0, 0)) else ([], false, (0, 0))) else ([], false, faultD L ns r)
/-- returned a list, a bool and a fault -/
def GivesPF (w : World) (x : List Int × Bool × (Int × Int)) (e : Ending) (w' : World) : Prop :=
  (∃ O n c, e = .returned (.tuple #[.slice O n c, .bool x.2.1, faultV x.2.2]) ∧ Rd Enc.int w' O n c x.1) ∧ Below w.heap.size w w'
/-- the fault's box is none of the list's -/
theorem rd_put2 {wr : World} {g : Nat} {A : Option Addr} {n c : Nat} {ns : List Int} (hr : Rd Enc.int wr A n c ns) (u0 u1 : Value) (hA : ∀ b off, A = some ⟨b, off, none⟩ → 0 < n → b ≠ g) :
    Rd Enc.int ((wr.setCell ⟨g, 0, none⟩ u0).setCell ⟨g, 1, none⟩ u1) A n c ns := by
  refine ⟨hr.len, hr.cap, hr.small, hr.nil, fun hn => ?_⟩
  obtain ⟨b, off, e, hc⟩ := hr.at_ hn
  have h1 := hA b off e hn
  refine ⟨b, off, e, fun j x hj => ?_⟩
  obtain ⟨vs, ho, hv⟩ := hc j x hj
  refine ⟨vs, ho, fun i v hi => ?_⟩
  have hb := World.cell?_of_block (w := wr) (w' := (wr.setCell ⟨g, 0, none⟩ u0).setCell ⟨g, 1, none⟩ u1) (a := ⟨b, off + j * Enc.int.size + i, none⟩) (by
    show ((wr.setCell ⟨g, 0, none⟩ u0).setCell ⟨g, 1, none⟩ u1).heap[b]? = wr.heap[b]?
    rw [Below.heap_setCell _ ⟨g, 1, none⟩ _ b h1, Below.heap_setCell _ ⟨g, 0, none⟩ _ b h1])
  rw [hb]
  exact hv i v hi
/-- the walk to the first set goes alike in two texts of one meaning -/
theorem pick_same {L : Nat} {ns ns' : List BN} (ok : OkD L ns) (ok' : OkD L ns') : ∀ (n k k' : Nat), k ≤ n → k < ns.length + 2 → k' < ns'.length + 2 → (∀ s, sem ns k s = sem ns' k' s) → pick ns k = pick ns' k' := by
  intro n
  induction n with
  | zero =>
    intro k k' hk hlt hlt' e
    rcases cross ok ok' hlt hlt' e with ⟨h2, rfl⟩ | ⟨i, i', v, l, h, l', h', rfl, rfl, _⟩
    · rw [pick_small ns h2, pick_small ns' h2]
    · omega
  | succ n ih =>
    intro k k' hk hlt hlt' e
    rcases cross ok ok' hlt hlt' e with ⟨h2, rfl⟩ | ⟨i, i', v, l, h, l', h', rfl, rfl, hn, hn', el, eh⟩
    · rw [pick_small ns h2, pick_small ns' h2]
    · obtain ⟨_, b1, b2, _⟩ := ok.node i v l h hn
      obtain ⟨_, c1, c2, _⟩ := ok'.node i' v l' h' hn'
      rw [pick_node ok hn, pick_node ok' hn', ih l l' (by omega) (by omega) (by omega) el, ih h h' (by omega) (by omega) (by omega) eh]
      have : l = 0 ↔ l' = 0 := by
        constructor
        · rintro rfl
          rcases cross ok ok' (by omega) (by omega) el with ⟨_, h⟩ | ⟨_, _, _, _, _, _, _, h, _⟩
          · exact h
          · omega
        · rintro rfl
          rcases cross ok' ok (by omega) (by omega) (fun s => (el s).symm) with ⟨_, h⟩ | ⟨_, _, _, _, _, _, _, h, _⟩
          · exact h
          · omega
      by_cases h0 : l = 0
      · rw [if_pos h0, if_pos (this.1 h0)]
      · rw [if_neg h0, if_neg (fun h => h0 (this.2 h))]

set_option maxHeartbeats 1600000 in
set_option maxRecDepth 100000 in
theorem Pick_d (L : Int) (A : Option Addr) (n c : Nat) (ns : List DI) (r : Int) (w : World) (hL : -9223372036854775808 ≤ L ∧ L ≤ 9223372036854775807) (hr : -9223372036854775808 ≤ r ∧ r ≤ 9223372036854775807) (h : Rd Enc.node w A n c ns) :
    Calls Try.prog 27 #[.agg #[.int .i64 L, .slice A n c, .int .i64 r]] w (GivesPF w (pickR L ns r)) := by
  have hl := h.len
  have hst0 := VBox.start w L A n c r
  have Hrd := hide h
  have Hst0 := hide hst0
  clear h hst0
  go_enter Try.func27, Try.ntmps27
  go_wp2_with fail
  obtain ⟨V, hV⟩ : ∃ V, V = ((w.alloc (.cells #[.int .i64 L, .slice A n c, .int .i64 r] 30)).alloc (.cells #[.int .i64 0, .int .i64 0] 25)) := ⟨_, rfl⟩
  rw [← hV]
  have hst := Hst0.out
  rw [← hV] at hst
  have Hst := hide hst
  clear hV hst Hst0
  refine (Validate_ct L A n c ns r V hL hr (Hrd.out.keep Hst.out.below)).mono ?_
  rintro e w1 ⟨rfl, hb1⟩
  generalize hf : faultD L ns r = f
  obtain ⟨f1, f2⟩ := f
  have Hf := hide hf
  clear hf
  unfold faultV
  have hb2 := hb1.trans (((Below.refl w1.heap.size w1).alloc (Nat.le_refl _) (.cells #[.int .i64 f1, .int .i64 f2] 25)).mono hb1.size)
  obtain ⟨d0, d1, d2, d3, d4, d5, d6, d7, d8⟩ := (Hst.out.keep hb1).facts
  have heq := eqFault f1 f2 0 0
  obtain ⟨w2, hw2⟩ : ∃ w2, w2 = w1.alloc (.cells #[.int .i64 f1, .int .i64 f2] 25) := ⟨_, rfl⟩
  have hbf : Blk 25 w2 w1.heap.size [.int .i64 f1, .int .i64 f2] := by rw [hw2]; exact Blk.new _ _ _
  rw [← hw2] at hb2
  have e2 : ¬ w1.heap.size = w.heap.size + 1 := by omega
  have e3 : ¬ w.heap.size + 1 = w1.heap.size := by omega
  have Hw2 := hide hw2
  have Hb2 := hide hb2
  have Hbf := hide hbf
  have Hvb2 := hide (Hst.out.keep hb2)
  clear hbf hw2 hb1 hb2
  by_cases hz : (f1, f2) = (0, 0)
  · rw [decide_eq_true hz] at heq
    have hvalid := faultD_valid (L := L) (ns := ns) (r := r) (by rw [Hf.out]; exact hz)
    have hres : pickR L ns r = if (pick (ns.map natN) r.toNat).2 = 1 then ((pick (ns.map natN) r.toNat).1.map Int.ofNat, true, (0, 0)) else ([], false, (0, 0)) := by
      unfold pickR
      rw [if_pos (by rw [Hf.out]; exact hz)]
    have HRes0 := hide hres
    have Hvalid := hide hvalid
    clear hz hres hvalid
    go_wp2_with fail
    rw [← Hw2.out]
    have hres := HRes0.out
    have hvalid := Hvalid.out
    clear HRes0 Hvalid
    obtain ⟨hv1, hcast1, hLe, hre1⟩ := hvalid
    obtain ⟨L', hL'⟩ : ∃ m : Nat, L = (m : Int) := ⟨L.toNat, hLe.symm⟩
    obtain ⟨r', hr'⟩ : ∃ m : Nat, r = (m : Int) := ⟨r.toNat, hre1.symm⟩
    subst hL' hr'
    simp only [Int.toNat_natCast] at hv1 hres
    generalize hd1 : ns.map natN = ds1 at hv1 hcast1 hres
    have hlen1 : ds1.length = n := by rw [← hd1, List.length_map]; exact hl
    have hn1 : n ≤ 300 := by have := hv1.few; omega
    have hlow := hv1.low
    have hrd1 : ∀ W, Below V.heap.size V W → Rd Enc.node W A n c (ds1.map castN) := fun W hW => by
      rw [hcast1]
      exact Hrd.out.keep (Hst.out.below.trans (hW.mono Hst.out.below.size))
    have Hv1 := hide hv1
    have HR1 := hide hrd1
    have HRes := hide hres
    clear hv1 hcast1 hLe hre1 hres hd1 hrd1 d0 d1 d2 d3 d4 d5 d6 d7 d8 e2 e3 heq
    refine (NewStore_ct L' hlow w2).mono ?_
    rintro e w5 ⟨hb5, g, bf, bp, rfl, hst5⟩
    have hb5' := Hb2.out.trans (hb5.mono Hb2.out.size)
    obtain ⟨d0, d1, d2, d3, d4, d5, d6, d7, d8⟩ := (Hst.out.keep hb5').facts
    have Hst5 := hide hst5
    have Hb5 := hide hb5'
    have Hb25 := hide hb5
    clear hst5 hb5 hb5'
    have hV2 : V.heap.size ≤ w2.heap.size := Hb2.out.size
    go_wp2_with fail
    refine (Read_ct (C := 0) (n := n) (c := c) (root := r') (ds := ds1) Hst5.out Hv1.out.ok hlen1 Hv1.out.root (fun W hW => HR1.out W (Hb5.out.trans (hW.mono hV2))) (by omega) (by omega)).mono ?_
    rintro e w6 ⟨ms6, k6, rfl, hst6, hk6, hkl6, hq6⟩
    have hb6 : Below V.heap.size V w6 := Hb5.out.trans ((hk6.below Hb25.out.size).mono hV2)
    have Hst6 := hide hst6
    have Hb6 := hide hb6
    have Hq6 := hide hq6
    clear hst6 hb6 hq6 hk6 d0 d1 d2 d3 d4 d5 d6 d7 d8
    go_wp2_with fail
    refine (PickS2_ct Hst6.out hkl6 (by omega)).mono ?_
    rintro e w7 ⟨⟨O, m, oc, rfl, hrd7, hnew7⟩, hb7⟩
    have hb7' := Hb6.out.trans (hb7.mono Hb6.out.size)
    have hpick := pick_same Hst6.out.ok Hv1.out.ok k6 k6 r' (Nat.le_refl _) hkl6 Hv1.out.root Hq6.out
    rw [hpick] at hrd7 ⊢
    obtain ⟨d0, d1, d2, d3, d4, d5, d6, d7, d8⟩ := (Hst.out.keep hb7').facts
    have Hvb7 := hide (Hst.out.keep hb7')
    have Hrd7 := hide hrd7
    have Hnew7 := hide hnew7
    have hb6s := Hb6.out.size
    clear hb7 hb7' hpick hrd7 hnew7
    by_cases h1 : (pick ds1 r').2 = 1
    · have HRes2 : Hid (pickR (L' : Int) ns (r' : Int) = ((pick ds1 r').1.map Int.ofNat, true, (0, 0))) := hide (by rw [HRes.out, if_pos h1])
      rw [decide_eq_true h1]
      clear h1 HRes
      go_wp2
      refine bodyPost_ret (v := .tuple #[.slice O m oc, .bool true, faultV (0, 0)]) (by simp [results, Try.results27, go_sem, faultV, d3, d4]) rfl ?_
      rw [HRes2.out]
      refine ⟨⟨O, m, oc, rfl, rd_put2 Hrd7.out _ _ (fun b off e _ => ?_)⟩, (Hvb7.out.below.setCell (by simp) _).setCell (by simp) _⟩
      have := Hnew7.out b off e
      have := Hst.out.res.lt
      omega
    · have HRes2 : Hid (pickR (L' : Int) ns (r' : Int) = ([], false, (0, 0))) := hide (by rw [HRes.out, if_neg h1])
      rw [decide_eq_false h1]
      clear h1 HRes
      go_wp2
      refine bodyPost_ret (v := .tuple #[.slice none 0 0, .bool false, faultV (0, 0)]) (by simp [results, Try.results27, go_sem, faultV, d3, d4]) rfl ?_
      rw [HRes2.out]
      exact ⟨⟨none, 0, 0, rfl, Rd.nil_ _ _⟩, (Hvb7.out.below.setCell (by simp) _).setCell (by simp) _⟩
  · rw [decide_eq_false hz] at heq
    have hres : pickR L ns r = ([], false, (f1, f2)) := by unfold pickR; rw [Hf.out, if_neg hz]
    have HRes := hide hres
    clear hz hres
    go_wp2_with fail
    rw [← Hw2.out]
    obtain ⟨x0, x1, x2, x3, x4, x5, x6, x7, x8⟩ := Hvb2.out.facts
    have y0 := Hbf.out.cell 0
    have y1 := Hbf.out.cell 1
    have y2 := Hbf.out.lt
    simp only [List.getElem?_cons_zero, List.getElem?_cons_succ] at y0 y1
    go_region
    all_goals go_wp2
    all_goals
      refine bodyPost_ret (v := .tuple #[.slice none 0 0, .bool false, faultV (f1, f2)]) (by simp [results, Try.results27, go_sem, faultV, x3, x4]) rfl ?_
      rw [HRes.out]
      exact ⟨⟨none, 0, 0, rfl, Rd.nil_ _ _⟩, ((Hvb2.out.below.setCell (by simp) _).setCell (by simp) _).drew⟩
end Go.Proofs.Ytgenpcokpodhkaa
