/- Contract of diagram.Validate. -/
import Derived.Test.YtgenpcokpodhkaaDia2
namespace Go.Proofs.Ytgenpcokpodhkaa
open Go.RowKit Go.Maps

/-- the boxes of Validate: the diagram, the fault -/
structure VBox (w wr : World) (L : Int) (A : Option Addr) (n c : Nat) (r : Int) : Prop where
  bx : Blk 30 wr w.heap.size [.int .i64 L, .slice A n c, .int .i64 r]
  res : Blk 25 wr (w.heap.size + 1) [.int .i64 0, .int .i64 0]
  below : Below w.heap.size w wr
theorem VBox.start (w : World) (L : Int) (A : Option Addr) (n c : Nat) (r : Int) : VBox w ((w.alloc (.cells #[.int .i64 L, .slice A n c, .int .i64 r] 30)).alloc (.cells #[.int .i64 0, .int .i64 0] 25)) L A n c r :=
  ⟨(boxed2 w _ _ [.int .i64 L, .slice A n c, .int .i64 r] [.int .i64 0, .int .i64 0]).1, (boxed2 w _ _ [.int .i64 L, .slice A n c, .int .i64 r] [.int .i64 0, .int .i64 0]).2.1, below_two _ _ _⟩
theorem VBox.keep {w wr wr' : World} {L : Int} {A : Option Addr} {n c : Nat} {r : Int} (h : VBox w wr L A n c r) (hb : Below wr.heap.size wr wr') : VBox w wr' L A n c r :=
  ⟨h.bx.keep hb, h.res.keep hb, h.below.trans (hb.mono h.below.size)⟩
theorem VBox.facts {w wr : World} {L : Int} {A : Option Addr} {n c : Nat} {r : Int} (h : VBox w wr L A n c r) :
    wr.cell? ⟨w.heap.size, 0, none⟩ = some (.int .i64 L) ∧ wr.cell? ⟨w.heap.size, 1, none⟩ = some (.slice A n c) ∧ wr.cell? ⟨w.heap.size, 2, none⟩ = some (.int .i64 r) ∧
    wr.cell? ⟨w.heap.size + 1, 0, none⟩ = some (.int .i64 0) ∧ wr.cell? ⟨w.heap.size + 1, 1, none⟩ = some (.int .i64 0) ∧ wr.frozen? ⟨w.heap.size + 1, 0, none⟩ = false ∧ wr.frozen? ⟨w.heap.size + 1, 1, none⟩ = false ∧ w.heap.size + 1 < wr.heap.size ∧ w.heap.size < wr.heap.size :=
  ⟨h.bx.cell 0, h.bx.cell 1, h.bx.cell 2, h.res.cell 0, h.res.cell 1, h.res.frozen 0, h.res.frozen 1, h.res.lt, h.bx.lt⟩

set_option maxHeartbeats 3200000 in
set_option maxRecDepth 100000 in
theorem Validate_ct (L : Int) (A : Option Addr) (n c : Nat) (ns : List DI) (r : Int) (w : World) (hL : -9223372036854775808 ≤ L ∧ L ≤ 9223372036854775807) (hr : -9223372036854775808 ≤ r ∧ r ≤ 9223372036854775807) (h : Rd Enc.node w A n c ns) :
    Calls Try.prog 22 #[.agg #[.int .i64 L, .slice A n c, .int .i64 r]] w (Gives w (faultV (faultD L ns r))) := by
  have hsm := h.low
  have hcap := h.cap
  have hcs := h.small
  have hl := h.len
  by_cases hL1 : L < 0
  · have Hf : Hid (faultD L ns r = (3, -1)) := hide (by unfold faultD; rw [if_pos (.inl hL1)])
    clear h
    go_enter Try.func22, Try.ntmps22
    go_wp2
    refine bodyPost_ret (v := faultV (3, -1)) (by simp [results, Try.results22, go_sem, faultV]) rfl ?_
    exact ⟨by rw [Hf.out], below_two _ _ _⟩
  by_cases hL2 : 24 < L
  · have Hf : Hid (faultD L ns r = (3, -1)) := hide (by unfold faultD; rw [if_pos (.inr hL2)])
    clear h
    go_enter Try.func22, Try.ntmps22
    go_wp2
    refine bodyPost_ret (v := faultV (3, -1)) (by simp [results, Try.results22, go_sem, faultV]) rfl ?_
    exact ⟨by rw [Hf.out], below_two _ _ _⟩
  by_cases hn : 300 < n
  · have Hf : Hid (faultD L ns r = (2, -1)) := hide (by unfold faultD; rw [if_neg (by omega), if_pos (by omega)])
    clear h
    go_enter Try.func22, Try.ntmps22
    go_wp2
    refine bodyPost_ret (v := faultV (2, -1)) (by simp [results, Try.results22, go_sem, faultV]) rfl ?_
    exact ⟨by rw [Hf.out], below_two _ _ _⟩
  have hl3 : ¬ 300 < ns.length := by omega
  have Hrd := hide h
  have hst := VBox.start w L A n c r
  have Hst := hide hst
  clear h hst
  go_enter Try.func22, Try.ntmps22
  go_wp2_with fail
  go_loopw [28] (fun i wr => ∃ k : Nat, k ≤ n ∧ i = .int .i64 k ∧ VBox w wr L A n c r ∧ scanN L ns 0 ns = scanN L ns k (ns.drop k)) (fun i _ => n - (intOf i).toNat)
  case atStart => exact ⟨0, by omega, rfl, Hst.out, by simp⟩
  case round =>
    obtain ⟨k, hk, rfl, hbx, hrel⟩ := hrel
    obtain ⟨f0, f1, f2, f3, f4, f5, f6, f7, f8⟩ := hbx.facts
    by_cases hlt : k < n
    · obtain ⟨b, off, x, rfl, hx, hc0, hc1, hc2, hxb, hbw⟩ := (Hrd.out.keep hbx.below).node hlt
      rw [drop_cons hx] at hrel
      obtain ⟨x0, x1, x2⟩ := x
      simp only at hc0 hc1 hc2 hxb
      have Hrel := hide hrel
      have Hbx := hide hbx
      have Hx := hide hx
      clear hrel hbx hx
      by_cases hrange : rangeN L k (x0, x1, x2)
      · have hf : faultD L ns r = (3, (k : Int)) := by
          refine faultD_some (by omega) (by omega) hl3 ?_
          have hch : chkN L ns k (x0, x1, x2) = 3 := by unfold chkN; rw [if_pos hrange]
          rw [Hrel.out, scanN, hch]
          rfl
        have Hf := hide hf
        clear hf
        simp only [rangeN] at hrange
        rcases (show x0 < 0 ∨ (0 ≤ x0 ∧ L ≤ x0) ∨ (0 ≤ x0 ∧ x0 < L ∧ x1 < 0) ∨ (0 ≤ x0 ∧ x0 < L ∧ 0 ≤ x1 ∧ (k : Int) + 1 < x1) ∨ (0 ≤ x0 ∧ x0 < L ∧ 0 ≤ x1 ∧ x1 ≤ (k : Int) + 1 ∧ x2 < 0) ∨ (0 ≤ x0 ∧ x0 < L ∧ 0 ≤ x1 ∧ x1 ≤ (k : Int) + 1 ∧ 0 ≤ x2 ∧ (k : Int) + 1 < x2) by omega) with hz | ⟨hz1, hz⟩ | ⟨hz1, hz2, hz⟩ | ⟨hz1, hz2, hz3, hz⟩ | ⟨hz1, hz2, hz3, hz4, hz⟩ | ⟨hz1, hz2, hz3, hz4, hz5, hz⟩
        all_goals
          clear hrange
          go_wp2
          refine bodyPost_ret (v := faultV (3, (k : Int))) (by simp [results, Try.results22, go_sem, faultV, f3, f4, f7]) rfl ?_
          exact ⟨by rw [Hf.out], ((Hbx.out.below.setCell (by simp) _).setCell (by simp) _).alloc (by simpa [World.setCell] using Hbx.out.below.size) _⟩
      · simp only [rangeN, not_or] at hrange
        obtain ⟨z1, z2, z3, z4, z5, z6⟩ := hrange
        have hz0 : ¬ rangeN L k (x0, x1, x2) := by simp only [rangeN, not_or]; exact ⟨z1, z2, z3, z4, z5, z6⟩
        have hck : chkN L ns k (x0, x1, x2) = if badN L ns k (x0, x1, x2) then 5 else 0 := by unfold chkN; rw [if_neg hz0]
        have hbad : badN L ns k (x0, x1, x2) → faultD L ns r = (5, (k : Int)) := fun hb => by
          refine faultD_some (by omega) (by omega) hl3 ?_
          rw [if_pos hb] at hck
          rw [Hrel.out, scanN, hck]
          rfl
        have hgood : ¬ badN L ns k (x0, x1, x2) → scanN L ns 0 ns = scanN L ns (k + 1) (ns.drop (k + 1)) := fun hb => by
          rw [if_neg hb] at hck
          rw [Hrel.out, scanN, if_pos hck]
        have Hbad := hide hbad
        have Hgood := hide hgood
        have y1 : 0 ≤ x0 := by omega
        have y2 : x0 < L := by omega
        have y3 : 0 ≤ x1 := by omega
        have y4 : x1 ≤ (k : Int) + 1 := by omega
        have y5 : 0 ≤ x2 := by omega
        have y6 : x2 ≤ (k : Int) + 1 := by omega
        clear z1 z2 z3 z4 z5 z6 hz0 hck hbad hgood Hrel
        go_wp2_with fail
        obtain ⟨V, hV⟩ : ∃ V, V = wr.alloc (.cells #[.int .i64 x0, .int .i64 x1, .int .i64 x2] 69) := ⟨_, rfl⟩
        rw [← hV]
        have hbV : Below wr.heap.size wr V := by rw [hV]; exact (Below.refl _ _).alloc (Nat.le_refl _) _
        have hbox : Blk 69 V wr.heap.size [.int .i64 x0, .int .i64 x1, .int .i64 x2] := by rw [hV]; exact Blk.new _ _ _
        have hvb := Hbx.out.keep hbV
        have hlv : ∀ W, Below V.heap.size V W → ∀ q, 0 ≤ q → q < (n : Int) + 2 → Calls Try.prog 48 #[.int .i64 q, .pointer (some ⟨w.heap.size, 0, none⟩)] W (Same W (.int .i64 (lvlI L ns q))) := fun W hW q hq0 hq =>
          Lvl_ct _ n c _ ns L r q W ((Hrd.out.keep hvb.below).keep hW) (hvb.bx.keep hW) hq hq0
        obtain ⟨g0, g1, g2, g3, g4, g5, g6, g7, g8⟩ := hvb.facts
        have hd0 := hbox.cell 0
        have hd1 := hbox.cell 1
        have hd2 := hbox.cell 2
        have hVl := hbox.lt
        simp only [List.getElem?_cons_zero, List.getElem?_cons_succ] at hd0 hd1 hd2
        have Hbox := hide hbox
        have Hvb := hide hvb
        have Hlv := hide hlv
        clear hV hbV hbox hvb hlv f0 f1 f2 f3 f4 f5 f6 hc0 hc1 hc2
        by_cases he : x1 = x2
        · subst he
          have Hf : Hid (faultD L ns r = (5, (k : Int))) := hide (Hbad.out (.inl rfl))
          go_quiet (fail)
          go_wp2
          refine bodyPost_ret (v := faultV (5, (k : Int))) (by simp [results, Try.results22, go_sem, faultV, g3, g4]) rfl ?_
          exact ⟨by rw [Hf.out], ((below_drewN Hvb.out.below _).setCell (by simp) _).setCell (by simp) _⟩
        · have hne : (x1 == x2) = false := by rw [beq_eq_false_iff_ne]; exact he
          have hl1 := fun W hW => Hlv.out W hW x1 y3 (by omega)
          have hl2 := fun W hW => Hlv.out W hW x2 y5 (by omega)
          have hb1 : lvlI L ns x1 ≤ x0 → faultD L ns r = (5, (k : Int)) := fun h => Hbad.out (.inr (.inl h))
          have hb2 : lvlI L ns x2 ≤ x0 → faultD L ns r = (5, (k : Int)) := fun h => Hbad.out (.inr (.inr (.inl h)))
          have hb3 : (x0, x1, x2) ∈ ns.take k → faultD L ns r = (5, (k : Int)) := fun h => Hbad.out (.inr (.inr (.inr h)))
          have hgd : ¬ lvlI L ns x1 ≤ x0 → ¬ lvlI L ns x2 ≤ x0 → (x0, x1, x2) ∉ ns.take k → scanN L ns 0 ns = scanN L ns (k + 1) (ns.drop (k + 1)) := fun h1 h2 h3 => Hgood.out (fun hb => by
            simp only [badN] at hb
            rcases hb with hb | hb | hb | hb
            · exact he hb
            · exact h1 hb
            · exact h2 hb
            · exact h3 hb)
          generalize lvlI L ns x1 = p1 at hl1 hb1 hgd
          generalize lvlI L ns x2 = p2 at hl2 hb2 hgd
          have Hl1 := hide hl1
          have Hl2 := hide hl2
          have Hb3 := hide hb3
          have Hgd := hide hgd
          clear hl1 hl2 hb3 hgd Hbad Hgood Hlv he
          by_cases hp1 : p1 ≤ x0
          · have Hf : Hid (faultD L ns r = (5, (k : Int))) := hide (hb1 hp1)
            have hdp : decide (p1 ≤ x0) = true := decide_eq_true hp1
            clear hb1 hb2
            go_quiet ((go_at_call 48; exact same_call (Hl1.out _ (below_drewN (Below.refl _ _) _))))
            go_wp2
            refine bodyPost_ret (v := faultV (5, (k : Int))) (by simp [results, Try.results22, go_sem, faultV, g3, g4]) rfl ?_
            exact ⟨by rw [Hf.out], ((below_drewN Hvb.out.below _).setCell (by simp) _).setCell (by simp) _⟩
          · have hdp : decide (p1 ≤ x0) = false := decide_eq_false hp1
            by_cases hp2 : p2 ≤ x0
            · have Hf : Hid (faultD L ns r = (5, (k : Int))) := hide (hb2 hp2)
              have hdp2 : decide (p2 ≤ x0) = true := decide_eq_true hp2
              clear hb1 hb2
              go_quiet ((go_at_call 48; first | with_reducible exact same_call (Hl1.out _ (below_drewN (Below.refl _ _) _)) | with_reducible exact same_call (Hl2.out _ (below_drewN (Below.refl _ _) _))))
              go_wp2
              refine bodyPost_ret (v := faultV (5, (k : Int))) (by simp [results, Try.results22, go_sem, faultV, g3, g4]) rfl ?_
              exact ⟨by rw [Hf.out], ((below_drewN Hvb.out.below _).setCell (by simp) _).setCell (by simp) _⟩
            · have hdp2 : decide (p2 ≤ x0) = false := decide_eq_false hp2
              clear hb1 hb2
              go_cut [70] (fun s70 wc => s70 = .bool (decide ((x0, x1, x2) ∈ ns.take k)) ∧ Below V.heap.size V wc)
              case first =>
                have hct := fun W hW => Contains_ct (some ⟨b, off, none⟩) k c (ns.take k) (x0, x1, x2) W (((Hrd.out.keep Hvb.out.below).keep hW).upto (k := k) (by omega))
                unfold nodeV at hct
                have Hct := hide hct
                clear hct
                have hkc : k ≤ c := by omega
                go_region_held3 (fun w' => w'.cell? ⟨w.heap.size, 1, none⟩ = some (.slice (some ⟨b, off, none⟩) n c) ∧ w'.cell? ⟨wr.heap.size, 0, none⟩ = some (.int .i64 x0) ∧ w'.cell? ⟨wr.heap.size, 1, none⟩ = some (.int .i64 x1) ∧ w'.cell? ⟨wr.heap.size, 2, none⟩ = some (.int .i64 x2)) (first | go_keep) (first
                  | (go_at_call 48
                     with_reducible refine (Hl1.out _ (Below.refl V.heap.size V).drew).mono ?_
                     rintro e w1 ⟨rfl, rfl⟩)
                  | (go_at_call 48
                     with_reducible refine (Hl2.out _ (Below.refl V.heap.size V).drew).mono ?_
                     rintro e w1 ⟨rfl, rfl⟩)
                  | (go_at_call 49
                     refine (Hct.out _ (Below.refl V.heap.size V).drew).mono ?_
                     rintro e w3 ⟨rfl, hb3⟩
                     have hvb3 := Hvb.out.keep ((Below.refl V.heap.size V).drew.trans hb3)
                     obtain ⟨u0, u1, u2, u3, u4, u5, u6, u7, u8⟩ := hvb3.facts
                     have hbx3 := Hbox.out.keep ((Below.refl V.heap.size V).drew.trans hb3)
                     have e0 := hbx3.cell 0
                     have e1 := hbx3.cell 1
                     have e2 := hbx3.cell 2
                     simp only [List.getElem?_cons_zero, List.getElem?_cons_succ] at e0 e1 e2
                     have HbW := hide ((Below.refl V.heap.size V).drew.trans hb3)
                     clear hb3 hvb3 hbx3 u0 u2 u3 u4 u5 u6))
                go_wp2_with fail
                go_meet
                exact ⟨rfl, HbW.out⟩
              case rest =>
                obtain ⟨rfl, hbw⟩ := hcut
                have hvb := Hvb.out.keep hbw
                obtain ⟨u0, u1, u2, u3, u4, u5, u6, u7, u8⟩ := hvb.facts
                have Hvb3 := hide hvb
                clear hbw hvb g0 g1 g2 g3 g4 g5 g6 hd0 hd1 hd2
                by_cases hin : (x0, x1, x2) ∈ ns.take k
                · have Hf : Hid (faultD L ns r = (5, (k : Int))) := hide (Hb3.out hin)
                  rw [decide_eq_true hin]
                  clear hin
                  go_wp2
                  refine bodyPost_ret (v := faultV (5, (k : Int))) (by simp [results, Try.results22, go_sem, faultV, u3, u4]) rfl ?_
                  exact ⟨by rw [Hf.out], (Hvb3.out.below.setCell (by simp) _).setCell (by simp) _⟩
                · have Hs := hide (Hgd.out hp1 hp2 hin)
                  rw [decide_eq_false hin]
                  clear hin
                  go_wp2_with fail
                  go_roundw
                  case rel => exact ⟨k + 1, by omega, by go_num, Hvb3.out, Hs.out⟩
                  case measure => simp [intOf]; omega
    · have hkn : k = n := by omega
      have hscan : scanN L ns 0 ns = none := by rw [hrel, List.drop_of_length_le (by omega)]; rfl
      obtain ⟨hok, hcast⟩ := scan_ok (by omega) hscan
      by_cases hroot : r < 0 ∨ (n : Int) + 1 < r
      · have Hf := hide (faultD_root (L := L) (ns := ns) (r := r) (by omega) (by omega) hl3 hscan (by rw [hl]; exact hroot))
        have Hbx := hide hbx
        clear hrel hbx hscan hok hcast
        rcases (show r < 0 ∨ (0 ≤ r ∧ (n : Int) + 1 < r) by omega) with hz | ⟨hz1, hz⟩
        all_goals
          clear hroot
          go_wp2
          refine bodyPost_ret (v := faultV (3, -2)) (by simp [results, Try.results22, go_sem, faultV, f3, f4]) rfl ?_
          exact ⟨by rw [Hf.out], (Hbx.out.below.setCell (by simp) _).setCell (by simp) _⟩
      · have hfd := faultD_canon (L := L) (ns := ns) (r := r) (by omega) (by omega) hl3 hscan (by rw [hl]; exact hroot)
        obtain ⟨L', hL'⟩ : ∃ m : Nat, L = (m : Int) := ⟨L.toNat, by omega⟩
        obtain ⟨r', hr'⟩ : ∃ m : Nat, r = (m : Int) := ⟨r.toNat, by omega⟩
        subst hL' hr'
        have hr2 : r' < n + 2 := by omega
        have hL24 : L' ≤ 24 := by omega
        simp only [Int.toNat_natCast] at hok hfd
        obtain ⟨ds, hds⟩ : ∃ ds, ds = ns.map natN := ⟨_, rfl⟩
        rw [← hds] at hok hcast hfd
        have hdl : ds.length = n := by rw [hds, List.length_map, hl]
        have hrdr := Hrd.out.keep hbx.below
        have hnot1 : ¬ (r' : Int) < 0 := by omega
        have hnot2 : ¬ ((n : Int) + 1 < (r' : Int)) := by omega
        have Hok := hide hok
        have Hcast := hide hcast
        have Hfd := hide hfd
        have Hbx := hide hbx
        have Hrr := hide hrdr
        clear hrel hbx hscan hok hcast hfd hds hrdr hroot
        go_wp2_with fail
        refine (NewStore_ct L' hL24 wr).mono ?_
        rintro e w1 ⟨hb1, g, bf, bp, rfl, hst1⟩
        have hvb1 := Hbx.out.keep hb1
        obtain ⟨v0, v1, v2, v3, v4, v5, v6, v7, v8⟩ := hvb1.facts
        have Hvb1 := hide hvb1
        have Hst1 := hide hst1
        have Hb1 := hide hb1
        clear hvb1 hst1 hb1 f0 f1 f2 f3 f4 f5 f6 f7 f8
        go_wp2_with fail
        have hA : ∀ W, Below wr.heap.size w1 W → Rd Enc.node W A n c (ds.map castN) := fun W hW => by
          rw [Hcast.out]
          exact Hrr.out.keep (Hb1.out.trans hW)
        refine (Read_ct (C := 0) (n := n) (c := c) (root := r') Hst1.out Hok.out hdl (by omega) hA (by omega) (by omega)).mono ?_
        rintro e w2 ⟨ms, k2, rfl, hst2, hk2, hkl2, hq2⟩
        clear hA
        have hb2 := (Hb1.out.trans (hk2.below Hb1.out.size))
        have Hst2 := hide hst2
        have Hb2 := hide hb2
        have Hq2 := hide hq2
        clear hst2 hb2 hk2 hq2 v0 v1 v2 v3 v4 v5 v6 v7 v8
        go_wp2_with fail
        refine (Write_ct Hst2.out hkl2).mono ?_
        rintro e w3 ⟨⟨A3, n3, c3, rfl, hrd3, _⟩, hb3⟩
        have hcan := canon_eq Hst2.out.ok Hok.out hkl2 (show r' < ds.length + 2 by omega) Hq2.out
        rw [hcan] at hrd3 ⊢
        have hb3' := Hb2.out.trans (hb3.mono Hb2.out.size)
        have hvb3 := Hbx.out.keep hb3'
        obtain ⟨v0, v1, v2, v3, v4, v5, v6, v7, v8⟩ := hvb3.facts
        have Hrd3 := hide hrd3
        have Hvb3 := hide hvb3
        have Hb3 := hide hb3'
        clear hrd3 hb3 hb3' hcan hvb3
        go_wp2_with fail
        obtain ⟨V, hV⟩ : ∃ V, V = w3.alloc (.cells #[.int .i64 (L' : Int), .slice A3 n3 c3, .int .i64 ((canon ds r').2 : Nat)] 30) := ⟨_, rfl⟩
        rw [← hV]
        have hbV : Below w3.heap.size w3 V := by rw [hV]; exact (Below.refl _ _).alloc (Nat.le_refl _) _
        have hvbV := Hvb3.out.keep hbV
        obtain ⟨x0, x1, x2, x3, x4, x5, x6, x7, x8⟩ := hvbV.facts
        have heq := Equal_ct A3 n3 c3 A n c _ ns V (Hrd3.out.keep hbV) ((Hrr.out.keep Hb3.out).keep hbV)
        have hiff : ((canon ds r').1.map castN = ns) ↔ (canon ds r').1 = ds := by
          constructor
          · intro h
            exact castN_inj (h.trans Hcast.out.symm)
          · intro h
            rw [h, Hcast.out]
        have hdec : decide ((canon ds r').1.map castN = ns) = decide ((canon ds r').1 = ds) := decide_eq_decide.2 hiff
        rw [hdec] at heq
        have Heq := hide heq
        have HvbV := hide hvbV
        clear hV hbV hvbV heq hdec hiff v0 v1 v2 v3 v4 v5 v6 v7 v8 x0 x1 x2 x5 x6
        refine Heq.out.mono ?_
        rintro e w4 ⟨rfl, d, rfl⟩
        by_cases hcc : (canon ds r').1 = ds
        · have Hf : Hid (faultD (L' : Int) ns (r' : Int) = (0, 0)) := hide (by rw [Hfd.out, if_pos hcc])
          rw [decide_eq_true hcc]
          clear hcc
          obtain ⟨y0, y1, y2, y3, y4, y5, y6, y7, y8⟩ := (HvbV.out.keep (below_drewN (Below.refl _ _) d)).facts
          clear y0 y1 y2
          go_wp2
          refine bodyPost_ret (v := faultV (0, 0)) (by simp [results, Try.results22, go_sem, faultV, x3, x4]) rfl ?_
          exact ⟨by rw [Hf.out], ((below_drewN HvbV.out.below d).setCell (by simp) _).setCell (by simp) _⟩
        · have Hf : Hid (faultD (L' : Int) ns (r' : Int) = (5, -2)) := hide (by rw [Hfd.out, if_neg hcc])
          rw [decide_eq_false hcc]
          clear hcc
          obtain ⟨y0, y1, y2, y3, y4, y5, y6, y7, y8⟩ := (HvbV.out.keep (below_drewN (Below.refl _ _) d)).facts
          clear y0 y1 y2
          go_wp2
          refine bodyPost_ret (v := faultV (5, -2)) (by simp [results, Try.results22, go_sem, faultV, x3, x4]) rfl ?_
          exact ⟨by rw [Hf.out], ((below_drewN HvbV.out.below d).setCell (by simp) _).setCell (by simp) _⟩
end Go.Proofs.Ytgenpcokpodhkaa
