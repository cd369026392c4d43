/- The solver's run. -/
import Derived.Test.YtnfeknfakkdbhaaRs10
namespace Go.Proofs.Ytnfeknfakkdbhaa
set_option linter.unusedVariables false
set_option linter.unusedSimpArgs false
open Go.RowKit

theorem sliceInfo : (Try.prog.info? 22).map (fun i => (i.zero, i.size, i.bytes)) = some (some (.slice none 0 0), 1, 24) := by kernel_rfl
theorem Inv.starts_len {V : Nat} {cs : List (List Int)} {starts : List Nat} {t : List Int} {lev rea : Nat → Int} (h : Inv V cs starts t lev rea) : starts.length ≤ t.length := by
  have hnd : starts.Nodup := h.rise.imp (fun {a b} hab e => by omega)
  have := List.Nodup.length_le_of_subset (l₂ := List.range t.length) hnd (fun s hs => List.mem_range.2 (h.inside s hs))
  simpa using this
set_option maxRecDepth 100000 in
set_option maxHeartbeats 6400000 in
theorem run_ct {B : Nat} {w : World} {g : Nat} {a : SA} {V : Nat} {cs0 : List (List Int)} {vals lev rea : List Int} {most : Int} (h : Sv B w g a V cs0 [] vals lev rea [] []) (hst : St V cs0 [] [] vals lev rea) (hV : V ≤ 1000) (hm : most = 4000 ∨ (most = -1 ∧ V ≤ 30)) (hl0 : cs0.length ≤ 1000000) :
    Calls Try.prog 69 #[.pointer (some ⟨g, 0, none⟩), .int .i64 most] w (RunP B w g V cs0 most) := by
  have H := hide h
  have Hst := hide hst
  have Hm := hide hm
  have hmb : -1 ≤ most ∧ most ≤ 4000 := by omega
  clear h hst hm
  go_enter Try.func69, Try.ntmps69
  go_wp2_with fail
  go_loopg [] (meas (2 ^ V) V 0 0 + 1) (fun gk wr => ∃ (a : SA) (ln : List (List Int)) (vals lev rea t : List Int) (starts : List Nat) (wlo tlo : Nat), Below B w wr ∧ Sv B wr g a V (cs0 ++ ln) ln vals lev rea t starts ∧ St V (cs0 ++ ln) starts t vals lev rea ∧
    Rups cs0 ln ∧ (∀ C ∈ ln, Clean V C) ∧ ln.length ≤ wlo ∧ wlo ≤ 2 ^ V ∧ (most = 4000 → ln.length ≤ 4000) ∧ Ahead V (cs0 ++ ln) starts t wlo tlo ∧ meas (2 ^ V) V wlo tlo < gk)
  case atStart => exact ⟨a, [], vals, lev, rea, [], [], 0, 0, Below.refl _ _, by simpa using H.out, by simpa using Hst.out, trivial, (fun C hC => by cases hC), Nat.le_refl _, Nat.zero_le _, (fun _ => Nat.zero_le _), (fun n _ _ _ => ⟨Nat.zero_le _, Nat.zero_le _⟩), Nat.lt_succ_self _⟩
  case round =>
    clear H Hst a vals lev rea
    obtain ⟨a, ln, vals, lev, rea, t, starts, wlo, tlo, hb, hsv, hst, hrups, hlnc, hlw, hwA, hln4, hah, hgk⟩ := hrel
    obtain ⟨gk, rfl⟩ : ∃ j, gk = j + 1 := ⟨gk - 1, by omega⟩
    obtain ⟨gv, gl, gr, L, lc, D, dc, T, tc, S, sc⟩ := a
    have hprop := propagate_ct hsv hst hV
    have Hprop := hide hprop
    have Hb := hide hb
    have Hrups := hide hrups
    have Hlnc := hide hlnc
    have Hln4 := hide hln4
    have Hah := hide hah
    have hlb : ln.length ≤ 2000000000 := by
      rcases Hm.out with h | ⟨_, h⟩
      · have := hln4 h
        omega
      · have := Nat.pow_le_pow_right (show 1 ≤ 2 by omega) h
        omega
    clear hprop hb hsv hst hrups hlnc hln4 hah
    go_wp2_with fail
    with_reducible refine Hprop.out.mono ?_
    rintro e w1 ⟨k0, O1, oc1, vals1, lev1, rea1, t1, rfl, hb1, hsv1, hst1, hpre, hres, hfr⟩
    simp only at hsv1
    obtain ⟨hw1, ht1⟩ := Hah.out t1.length hpre.length_le hfr hst1.inv.tr.len
    have htl1 := hst1.inv.tr.len
    have hsl1 := hst1.inv.starts_len
    have hpot := potW_lt (V := V) (starts := starts) t1.length htl1
    have hpos := Nat.two_pow_pos (V - t1.length)
    have Hb1 := hide (Hb.out.trans hb1)
    have Hsv1 := hide hsv1
    have Hst1 := hide hst1
    obtain ⟨f0, f1, f2, f3, f4, f5, f6, f7⟩ := hsv1.facts
    simp only at f0 f1 f2 f3 f4 f5 f6 f7
    have hgl1 := hsv1.blk.lt
    have hB1 : B ≤ w1.heap.size := by have := hsv1.ge 0 g rfl; omega
    have hst63 := own_nil_or hsv1.sts
    simp only at hst63
    clear hb1 hsv1 hst1 hpre hfr Hprop Hah Hb
    rcases hres with ⟨rfl, hcalm⟩ | ⟨i, c, rfl, hc, hneg⟩
    · have Hcalm := hide hcalm
      clear hcalm
      go_wp2_with fail
      obtain ⟨wo, hwo⟩ : ∃ wo : World, wo = w1 := ⟨_, rfl⟩
      go_loopw [8] (fun v wr => wr = w1 ∧ ∃ k : Nat, 1 ≤ k ∧ k ≤ V + 1 ∧ v = .int .i64 k ∧ ∀ j, 1 ≤ j → j < k → Lf vals1 j ≠ 0) (fun v _ => V + 1 - (intOf v).toNat)
      case atStart => exact ⟨rfl, 1, by omega, by omega, rfl, fun j h1 h2 => by omega⟩
      case round =>
        obtain ⟨rfl, k, hk1, hk2, rfl, hall⟩ := hrel
        have Hall := hide hall
        clear hall
        by_cases hkV : k ≤ V
        · have hcell := Hsv1.out.val.cell (Lf_get (l := vals1) (show k < vals1.length by rw [Hsv1.out.vlen]; omega))
          simp only at hcell
          have hk0' : (0 : Int) ≤ (k : Int) := by omega
          have hk1' : (k : Int) < (V : Int) + 1 := by omega
          have hk2' : (k : Int) ≤ (V : Int) := by omega
          obtain ⟨u, hu⟩ : ∃ u, u = Lf vals1 k := ⟨_, rfl⟩
          rw [← hu] at hcell
          have Hu := hide hu
          clear hu
          by_cases hz : u = 0
          · have hfk : Fits V (-(k : Int)) := ⟨by omega, by omega, by omega⟩
            have hlv : litVar (-(k : Int)) = k := by unfold litVar; omega
            have hval : valOf vals1 (-(k : Int)) = 0 := by
              unfold valOf
              rw [hlv, Int.toNat_natCast]
              exact Hu.out.symm.trans hz
            obtain ⟨n1, n2⟩ := (Hst1.out.free hfk.1).1 hval
            have hdec := Hst1.out.decide hfk n1 n2 Hcalm.out (-1)
            rw [show starts.length + 1 = (starts ++ [t1.length]).length by simp] at hdec
            have hah2 : Ahead V (cs0 ++ ln) (starts ++ [t1.length]) (t1 ++ [-(k : Int)]) (potW V starts t1.length) (t1.length + 1) := fun n h1 _ h3 => by
              rw [List.length_append, List.length_singleton] at h1
              exact ⟨pot_decide (by omega), h1⟩
            have Hdec := hide hdec
            have Hah2 := hide hah2
            have Hdr := hide (Hsv1.out.keep (Below.refl _ _).drew)
            have Hbd := hide (Hb1.out.drew)
            have g6n := (Hdr.out.blk.alloc (.cells #[.int .i64 (t1.length : Int)] 3)).cell 6
            simp only [List.getElem?_cons_zero, List.getElem?_cons_succ] at g6n
            obtain ⟨i0, hi0, hz0, hz1, hz2⟩ := info_parts Try.intInfo
            subst hz
            clear hval hlv n1 n2 hdec hah2 Hu
            go_upto_region 17 with (fail)
            refine wp_region_held_drew (S := (fun w' => w'.cell? ⟨g, 6, none⟩ = some (.slice O1 t1.length oc1))) (by kernel_rfl) ?_ (fun hHeld => ?_)
            · (try dsimp only); exact f6
            refine take1 (i := 0) (v := ?_) (some 87) rfl rfl (by kernel_rfl) (by kernel_rfl) (by kernel_rfl) (fun _ _ _ h => h) (Or.inl ⟨by rfl, ?_⟩) (by assumption) ?_
            rotate_left
            · intro w hSw; (try dsimp only at hSw); first | (go_simp; done) | (go_simp; with_reducible rfl)
            try simp only [Act.put, List.setIfInBounds_toArray, List.set_cons_zero, List.set_cons_succ]
            refine take1 (i := 1) (v := ?_) (some 88) rfl rfl (by kernel_rfl) (by kernel_rfl) (by kernel_rfl) (fun _ _ _ h => h) (Or.inl ⟨by rfl, ?_⟩) (by assumption) ?_
            rotate_left
            · intro w hSw; (try dsimp only at hSw); first | (go_simp; done) | (go_simp; with_reducible rfl)
            try simp only [Act.put, List.setIfInBounds_toArray, List.set_cons_zero, List.set_cons_succ]
            refine take1 (i := 2) (v := ?_) (some 89) rfl rfl (by kernel_rfl) (by kernel_rfl) (by kernel_rfl) (fun _ _ _ h => h) (Or.inl ⟨by rfl, ?_⟩) (by assumption) ?_
            rotate_left
            · intro w hSw; (try dsimp only at hSw); first | (go_simp; done) | (go_simp; with_reducible rfl)
            try simp only [Act.put, List.setIfInBounds_toArray, List.set_cons_zero, List.set_cons_succ]
            refine take1 (i := 3) (v := ?_) (some 90) rfl rfl (by kernel_rfl) (by kernel_rfl) (by kernel_rfl) (fun _ _ _ h => h) (Or.inl ⟨by rfl, ?_⟩) (by assumption) ?_
            rotate_left
            · intro w hSw; (try dsimp only at hSw); first | (go_simp; done) | (go_simp; with_reducible rfl)
            try simp only [Act.put, List.setIfInBounds_toArray, List.set_cons_zero, List.set_cons_succ]
            refine take1 (i := 5) (v := ?_) (some 92) rfl rfl (by kernel_rfl) (by kernel_rfl) (by kernel_rfl) (fun _ _ _ h => h) (Or.inl ⟨by rfl, ?_⟩) (by assumption) ?_
            rotate_left
            · intro w hSw; (try dsimp only at hSw); first | (go_simp; done) | (go_simp; with_reducible rfl)
            try simp only [Act.put, List.setIfInBounds_toArray, List.set_cons_zero, List.set_cons_succ]
            refine take1 (i := 6) (v := ?_) (some 93) rfl rfl (by kernel_rfl) (by kernel_rfl) (by kernel_rfl) (fun _ _ _ h => h) (Or.inl ⟨by rfl, ?_⟩) (by assumption) ?_
            rotate_left
            · intro w hSw; (try dsimp only at hSw); first | (go_simp; done) | (go_simp; with_reducible rfl)
            try simp only [Act.put, List.setIfInBounds_toArray, List.set_cons_zero, List.set_cons_succ]
            refine take1 (i := 7) (v := ?_) (some 94) rfl rfl (by kernel_rfl) (by kernel_rfl) (by kernel_rfl) (fun _ _ _ h => h) (Or.inl ⟨by rfl, ?_⟩) (by assumption) ?_
            rotate_left
            · intro w hSw; (try dsimp only at hSw); first | (go_simp; done) | (go_simp; with_reducible rfl)
            try simp only [Act.put, List.setIfInBounds_toArray, List.set_cons_zero, List.set_cons_succ]
            refine take1 (i := 8) (v := ?_) (some 95) rfl rfl (by kernel_rfl) (by kernel_rfl) (by kernel_rfl) (fun _ _ _ h => h) (Or.inl ⟨by rfl, ?_⟩) (by assumption) ?_
            rotate_left
            · intro w hSw; (try dsimp only at hSw); first | (go_simp; done) | (go_simp; with_reducible rfl)
            try simp only [Act.put, List.setIfInBounds_toArray, List.set_cons_zero, List.set_cons_succ]
            refine take1 (i := 9) (v := ?_) (some 96) rfl rfl (by kernel_rfl) (by kernel_rfl) (by kernel_rfl) (fun _ _ _ h => h) (Or.inl ⟨by rfl, ?_⟩) (by assumption) ?_
            rotate_left
            · intro w hSw; (try dsimp only at hSw); first | (go_simp; done) | (go_simp; with_reducible rfl)
            try simp only [Act.put, List.setIfInBounds_toArray, List.set_cons_zero, List.set_cons_succ]
            refine wpAnyH_ready (rs := [4, 10]) (by kernel_rfl) (by simp) ?_
            refine AllReadyH.cons rfl (fun K hK => ?_) (AllReadyH.cons rfl (fun K hK => ?_) AllReadyH.nil)
            · go_simp
              refine hK.out _ _ ?_ (fun hHeld2 => ?_)
              · (try dsimp only); exact f6
              clear hK K hHeld
              try simp only [Act.put, List.setIfInBounds_toArray, List.set_cons_zero, List.set_cons_succ]
              have hHeld := hHeld2; clear hHeld2
              refine wpAnyH_ready (rs := [10]) (by kernel_rfl) (by simp) ?_
              refine AllReadyH.cons rfl (fun K hK => ?_) AllReadyH.nil
              go_simp
              refine hK.out _ _ ?_ (fun hHeld2 => ?_)
              · (try dsimp only); exact g6n
              clear hK K hHeld
              try simp only [Act.put, List.setIfInBounds_toArray, List.set_cons_zero, List.set_cons_succ]
              have hHeld := hHeld2; clear hHeld2
              refine wpAnyH_ready (rs := [11]) (by kernel_rfl) (by simp) ?_
              refine AllReadyH.cons rfl (fun K hK => ?_) AllReadyH.nil
              refine step_pushA rfl _ _ 22 rfl B 3 i0 (.int .i64 0) 1 8 Try.underlying22 hi0 hz0 hz1 hz2 rfl (by decide) (.slice S starts.length sc) starts.length (starts.map fun s : Nat => Value.int .i64 (s : Int)) rfl Hdr.out.sts [.int .i64 (t1.length : Int)] rfl (by intro u hu; simp at hu; subst hu; rfl) rfl (by omega) (by omega) hB1 ?_
              intro O6 oc6 w6 hown6 hg6 hat6
              obtain ⟨hp6, hb6⟩ := Hdr.out.pushS (x := t1.length) hown6 hg6 hat6
              have hblk6 := (Hdr.out.blk.alloc (.cells #[.int .i64 (t1.length : Int)] 3)).grown hg6 (fun e => by
                have := Hdr.out.ap 5 0 g (by show blkO S = some g; rw [← own_blkO]; exact e.symm) rfl
                omega)
              have c6 := hblk6.cell 7
              have g6' := hblk6.cell 6
              have c6f := hblk6.frozen 7
              have c6l := hblk6.lt
              simp only [List.getElem?_cons_zero, List.getElem?_cons_succ] at c6 g6'
              have g6s := hp6.blk.cell 6
              simp only [List.getElem?_cons_zero, List.getElem?_cons_succ] at g6s
              have Hp6 := hide hp6
              have Hb6 := hide hb6
              clear hown6 hg6 hat6 hp6 hb6 hblk6
              refine hK.out _ _ ?_ (fun hHeld2 => ?_)
              · (try dsimp only); exact g6'
              clear hK K hHeld
              try simp only [Act.put, List.setIfInBounds_toArray, List.set_cons_zero, List.set_cons_succ]
              have hHeld := hHeld2; clear hHeld2
              refine take1 (i := 12) (v := ?_) (some 99) rfl rfl (by kernel_rfl) (by kernel_rfl) (by kernel_rfl) (fun _ _ _ h => h) (Or.inl ⟨by rfl, ?_⟩) (by assumption) ?_
              rotate_left
              · intro w hSw; (try dsimp only at hSw); first | (go_simp; done) | (go_simp; with_reducible rfl)
              try simp only [Act.put, List.setIfInBounds_toArray, List.set_cons_zero, List.set_cons_succ]
              refine take1 (i := 13) (v := ?_) (some 100) rfl rfl (by kernel_rfl) (by kernel_rfl) (by kernel_rfl) (fun _ _ _ h => h) (Or.inl ⟨by rfl, ?_⟩) (by assumption) ?_
              rotate_left
              · intro w hSw; (try dsimp only at hSw); first | (go_simp; done) | (go_simp; with_reducible rfl)
              try simp only [Act.put, List.setIfInBounds_toArray, List.set_cons_zero, List.set_cons_succ]
              refine wpAnyH_ready (rs := [14]) (by kernel_rfl) (by simp) ?_
              refine AllReadyH.cons rfl (fun K hK => ?_) AllReadyH.nil
              go_simp
              refine hK.out _ _ ?_ (fun hHeld2 => ?_)
              · (try dsimp only); exact g6s
              clear hK K hHeld
              try simp only [Act.put, List.setIfInBounds_toArray, List.set_cons_zero, List.set_cons_succ]
              have hHeld := hHeld2; clear hHeld2
              refine wpAnyH_done (by kernel_rfl) ?_ _
              have hasg := assign_ct (-(k : Int)) (-1) Hp6.out hfk hV htl1
              have Hasg := hide hasg
              clear hasg hHeld c6 g6' c6f c6l g6s
              go_wp2_with fail
              with_reducible refine Hasg.out.mono ?_
              rintro e w8 ⟨he, hb8, O8, oc8, hsv8⟩
              unfold Ends at he
              subst he
              simp only at hsv8
              have Hb8 := hide (Hbd.out.trans (Hb6.out.trans hb8))
              have Hsv8 := hide hsv8
              clear hb8 hsv8
              go_wp2_with fail
              go_roundg gk
              case measure => omega
              case rel => exact ⟨_, ln, _, _, _, _, _, potW V starts t1.length, t1.length + 1, Hb8.out, Hsv8.out, Hdec.out, Hrups.out, Hlnc.out, by omega, by omega, Hln4.out, Hah2.out, Nat.lt_of_lt_of_le (meas_dec (A := 2 ^ V) (V := V) hw1 (show tlo < t1.length + 1 by omega) (by omega)) (by omega)⟩
            · go_simp
              refine hK.out _ _ ?_ (fun hHeld2 => ?_)
              · (try dsimp only); exact g6n
              clear hK K hHeld
              try simp only [Act.put, List.setIfInBounds_toArray, List.set_cons_zero, List.set_cons_succ]
              have hHeld := hHeld2; clear hHeld2
              refine wpAnyH_ready (rs := [4]) (by kernel_rfl) (by simp) ?_
              refine AllReadyH.cons rfl (fun K hK => ?_) AllReadyH.nil
              go_simp
              refine hK.out _ _ ?_ (fun hHeld2 => ?_)
              · (try dsimp only); exact g6n
              clear hK K hHeld
              try simp only [Act.put, List.setIfInBounds_toArray, List.set_cons_zero, List.set_cons_succ]
              have hHeld := hHeld2; clear hHeld2
              refine wpAnyH_ready (rs := [11]) (by kernel_rfl) (by simp) ?_
              refine AllReadyH.cons rfl (fun K hK => ?_) AllReadyH.nil
              refine step_pushA rfl _ _ 22 rfl B 3 i0 (.int .i64 0) 1 8 Try.underlying22 hi0 hz0 hz1 hz2 rfl (by decide) (.slice S starts.length sc) starts.length (starts.map fun s : Nat => Value.int .i64 (s : Int)) rfl Hdr.out.sts [.int .i64 (t1.length : Int)] rfl (by intro u hu; simp at hu; subst hu; rfl) rfl (by omega) (by omega) hB1 ?_
              intro O6 oc6 w6 hown6 hg6 hat6
              obtain ⟨hp6, hb6⟩ := Hdr.out.pushS (x := t1.length) hown6 hg6 hat6
              have hblk6 := (Hdr.out.blk.alloc (.cells #[.int .i64 (t1.length : Int)] 3)).grown hg6 (fun e => by
                have := Hdr.out.ap 5 0 g (by show blkO S = some g; rw [← own_blkO]; exact e.symm) rfl
                omega)
              have c6 := hblk6.cell 7
              have g6' := hblk6.cell 6
              have c6f := hblk6.frozen 7
              have c6l := hblk6.lt
              simp only [List.getElem?_cons_zero, List.getElem?_cons_succ] at c6 g6'
              have g6s := hp6.blk.cell 6
              simp only [List.getElem?_cons_zero, List.getElem?_cons_succ] at g6s
              have Hp6 := hide hp6
              have Hb6 := hide hb6
              clear hown6 hg6 hat6 hp6 hb6 hblk6
              refine hK.out _ _ ?_ (fun hHeld2 => ?_)
              · (try dsimp only); exact g6'
              clear hK K hHeld
              try simp only [Act.put, List.setIfInBounds_toArray, List.set_cons_zero, List.set_cons_succ]
              have hHeld := hHeld2; clear hHeld2
              refine take1 (i := 12) (v := ?_) (some 99) rfl rfl (by kernel_rfl) (by kernel_rfl) (by kernel_rfl) (fun _ _ _ h => h) (Or.inl ⟨by rfl, ?_⟩) (by assumption) ?_
              rotate_left
              · intro w hSw; (try dsimp only at hSw); first | (go_simp; done) | (go_simp; with_reducible rfl)
              try simp only [Act.put, List.setIfInBounds_toArray, List.set_cons_zero, List.set_cons_succ]
              refine take1 (i := 13) (v := ?_) (some 100) rfl rfl (by kernel_rfl) (by kernel_rfl) (by kernel_rfl) (fun _ _ _ h => h) (Or.inl ⟨by rfl, ?_⟩) (by assumption) ?_
              rotate_left
              · intro w hSw; (try dsimp only at hSw); first | (go_simp; done) | (go_simp; with_reducible rfl)
              try simp only [Act.put, List.setIfInBounds_toArray, List.set_cons_zero, List.set_cons_succ]
              refine wpAnyH_ready (rs := [14]) (by kernel_rfl) (by simp) ?_
              refine AllReadyH.cons rfl (fun K hK => ?_) AllReadyH.nil
              go_simp
              refine hK.out _ _ ?_ (fun hHeld2 => ?_)
              · (try dsimp only); exact g6s
              clear hK K hHeld
              try simp only [Act.put, List.setIfInBounds_toArray, List.set_cons_zero, List.set_cons_succ]
              have hHeld := hHeld2; clear hHeld2
              refine wpAnyH_done (by kernel_rfl) ?_ _
              have hasg := assign_ct (-(k : Int)) (-1) Hp6.out hfk hV htl1
              have Hasg := hide hasg
              clear hasg hHeld c6 g6' c6f c6l g6s
              go_wp2_with fail
              with_reducible refine Hasg.out.mono ?_
              rintro e w8 ⟨he, hb8, O8, oc8, hsv8⟩
              unfold Ends at he
              subst he
              simp only at hsv8
              have Hb8 := hide (Hbd.out.trans (Hb6.out.trans hb8))
              have Hsv8 := hide hsv8
              clear hb8 hsv8
              go_wp2_with fail
              go_roundg gk
              case measure => omega
              case rel => exact ⟨_, ln, _, _, _, _, _, potW V starts t1.length, t1.length + 1, Hb8.out, Hsv8.out, Hdec.out, Hrups.out, Hlnc.out, by omega, by omega, Hln4.out, Hah2.out, Nat.lt_of_lt_of_le (meas_dec (A := 2 ^ V) (V := V) hw1 (show tlo < t1.length + 1 by omega) (by omega)) (by omega)⟩
          · go_wp2_with fail
            go_roundw
            case rel => exact ⟨by first | trivial | rfl, k + 1, by omega, by omega, by go_num, fun j h1 h2 => by
              by_cases hj : j = k
              · rw [hj, ← Hu.out]
                exact hz
              · exact Hall.out j h1 (by omega)⟩
            case measure => simp [intOf]; omega
        · have hk2' : ¬ ((k : Int) ≤ (V : Int)) := by omega
          go_wp2_with fail
          go_ret2
          exact ⟨Hb1.out, _, _, ln, vals1, lev1, rea1, t1, starts, Hsv1.out, Hrups.out, Hlnc.out, Hln4.out, .inl ⟨rfl, rfl, Hst1.out, Hcalm.out, fun v h1 h2 => Hall.out v h1 (by omega)⟩⟩
    · have Hc := hide hc
      have Hneg := hide hneg
      clear hc hneg
      by_cases hmo : (ln.length : Int) = most
      · go_wp2_with fail
        go_ret2
        exact ⟨Hb1.out, _, _, ln, vals1, lev1, rea1, t1, starts, Hsv1.out, Hrups.out, Hlnc.out, Hln4.out, .inr (.inr ⟨rfl, hmo, by omega⟩)⟩
      · obtain ⟨i1, hi1, hy0, hy1, hy2⟩ := info_parts sliceInfo
        by_cases hs0 : starts = []
        · obtain ⟨vs, hownD, hvsl, hxsD⟩ := Hsv1.out.lrn
          have hvl : vs.length = ln.length := by rw [hownD.1, Nat.mul_one]
          have hsl0 : starts.length = 0 := by rw [hs0]; rfl
          have hin := Hst1.out.inv
          rw [hs0] at hin
          have hbase := conflict_base hin (List.mem_of_getElem? Hc.out) Hneg.out
          have Hr2 := hide (Hrups.out.snoc hbase)
          have HownD := hide hownD
          have HxsD := hide hxsD
          rw [hsl0] at f7
          clear hin hbase hownD hxsD
          go_wp2_with
            (at_builtin
             refine wpList_pushA rfl _ _ 40 rfl B 22 i1 (.slice none 0 0) 1 24 Try.underlying40 hi1 hy0 hy1 hy2 rfl (by decide) _ _ _ rfl HownD.out [.slice none 0 0] rfl (by intro u hu; simp at hu; subst hu; rfl) rfl (by omega) (by omega) hB1 ?_
             intro O6 oc6 w6 hown6 hg6 hat6
             obtain ⟨hp6, hb6, _⟩ := Hsv1.out.pushD (C := []) (A1 := none) (n1 := 0) (c1 := 0) (Rd.nil_ _ _) (fun b off e => by cases e) hvl HxsD.out hown6 hg6 hat6
             have hblk6 := (Hsv1.out.blk.alloc (.cells #[.slice none 0 0] 22)).grown hg6 (fun e => by
               have := Hsv1.out.ap 7 0 g (by show blkO D = some g; rw [← own_blkO]; exact e.symm) rfl
               omega)
             have c6 := hblk6.cell 2
             have c6f := hblk6.frozen 2
             have c6l := hblk6.lt
             simp only [List.getElem?_cons_zero, List.getElem?_cons_succ] at c6
             have Hp6 := hide hp6
             have Hb6 := hide hb6
             clear hown6 hg6 hat6 hp6 hb6 hblk6 f0 f1 f2 f3 f4 f5 f6 f7)
          go_ret2
          refine ⟨Hb1.out.trans Hb6.out, _, _, ln ++ [[]], vals1, lev1, rea1, t1, starts, Hp6.out, Hr2.out, fun C hC => ?_, fun h4 => ?_, .inr (.inl ⟨rfl, ln, rfl⟩)⟩
          · rcases List.mem_append.1 hC with hC | hC
            · exact Hlnc.out C hC
            · simp at hC
              subst hC
              exact ⟨fun x hx => (by cases hx), List.Pairwise.nil⟩
          · have := Hln4.out h4
            rw [List.length_append, List.length_singleton]
            omega
        · have hlearn := learn_ct (sort_ct hV) Hsv1.out Hst1.out Hc.out Hneg.out hs0 hV
          have Hlearn := hide hlearn
          have hmx : ∀ b : Nat, Mine g ⟨gv, gl, gr, L, lc, D, dc, O1, oc1, S, sc⟩ b → b < w1.heap.size := fun b ⟨j, hj⟩ => Hsv1.out.lt hj
          have Hmx := hide hmx
          have hspI : ¬ ((starts.length : Int) = 0) := fun h => hs0 (List.length_eq_zero_iff.1 (by omega))
          clear hlearn hmx
          go_wp2_with fail
          with_reducible refine Hlearn.out.mono ?_
          rintro e w2 ⟨gC, ocC, C, rfl, hb2, hownC, hlrn, hclC⟩
          have hsv2 := Hsv1.out.keep hb2
          have hrC : Rd Enc.int w2 (some ⟨gC, 0, none⟩) C.length ocC C := own_rd hownC rfl (fun x hx => by
            have := (hclC.1 x hx).2
            omega)
          have hgCge : w1.heap.size ≤ gC := own_base hownC rfl
          have hnm : ∀ b off, (some ⟨gC, 0, none⟩ : Option Addr) = some ⟨b, off, none⟩ → 0 < C.length → ¬ Mine g ⟨gv, gl, gr, L, lc, D, dc, O1, oc1, S, sc⟩ b := fun b off e _ hmi => by
            injection e with e
            injection e with e _
            have := Hmx.out b hmi
            omega
          have hCl := hclC.len
          obtain ⟨vs, hownD, hvsl, hxsD⟩ := hsv2.lrn
          have hvl : vs.length = ln.length := by rw [hownD.1, Nat.mul_one]
          have hB2 : B ≤ w2.heap.size := by have := hb2.size; omega
          have Hb2 := hide (Hb1.out.trans (hb2.mono hB1))
          have HrC := hide hrC
          have Hnm := hide hnm
          have HownD := hide hownD
          have HxsD := hide hxsD
          have Hsv2 := hide hsv2
          have Hlrn := hide hlrn
          have HclC := hide hclC
          clear f0 f1 f2 f3 f4 f5 f6 f7 Hlearn Hmx
          obtain ⟨f0, f1, f2, f3, f4, f5, f6, f7⟩ := hsv2.facts
          simp only at f0 f1 f2 f3 f4 f5 f6 f7
          clear hb2 hownC hlrn hclC hsv2 hrC hnm hownD hxsD hgCge hgl1
          have hgl2 := Hsv2.out.blk.lt
          obtain ⟨cs, hcs⟩ : ∃ cs, cs = cs0 ++ ln := ⟨_, rfl⟩
          rw [← hcs] at Hsv2 f1
          have Hcs := hide hcs
          clear hcs
          go_upto_region 10 with
            (at_builtin
             refine wpList_pushA rfl _ _ 40 rfl B 22 i1 (.slice none 0 0) 1 24 Try.underlying40 hi1 hy0 hy1 hy2 rfl (by decide) _ _ _ rfl HownD.out [.slice (some ⟨gC, 0, none⟩) C.length ocC] rfl (by intro u hu; simp at hu; subst hu; rfl) rfl (by omega) (by omega) hB2 ?_
             intro O6 oc6 w6 hown6 hg6 hat6
             obtain ⟨hp6, hb6, hk6⟩ := Hsv2.out.pushD HrC.out Hnm.out hvl HxsD.out hown6 hg6 hat6
             have hblk6 := (Hsv2.out.blk.alloc (.cells #[.slice (some ⟨gC, 0, none⟩) C.length ocC] 22)).grown hg6 (fun e => by
               have := Hsv2.out.ap 7 0 g (by show blkO D = some g; rw [← own_blkO]; exact e.symm) rfl
               omega)
             have c6 := hblk6.cell 2
             have c6f := hblk6.frozen 2
             have c6l := hblk6.lt
             simp only [List.getElem?_cons_zero, List.getElem?_cons_succ] at c6
             obtain ⟨hr6, hn6⟩ := hk6 _ _ _ _ HrC.out Hnm.out
             simp only at hp6 hn6
             have Hp6 := hide hp6
             have Hb6 := hide hb6
             have Hr6 := hide hr6
             have Hn6 := hide hn6
             clear hown6 hg6 hat6 hp6 hb6 hblk6 f0 f1 f2 f3 f4 f5 f6 f7 hk6 hr6 hn6)
          obtain ⟨W, hW⟩ : ∃ W, W = w6.setCell ⟨g, 2, none⟩ (.slice O6 (ln.length + 1) oc6) := ⟨_, rfl⟩
          rw [← hW] at Hp6 Hb6 Hr6 ⊢
          clear hW c6 c6f c6l HxsD HownD HrC Hnm
          obtain ⟨f0, f1, f2, f3, f4, f5, f6, f7⟩ := Hp6.out.facts
          simp only at f0 f1 f2 f3 f4 f5 f6 f7
          have hglW := Hp6.out.blk.lt
          obtain ⟨vs2, hownL, hvsl2, hxsL⟩ := Hp6.out.lst
          have hvl2 : vs2.length = cs.length := by rw [hownL.1, Nat.mul_one]
          have hcsl : cs.length ≤ 3000000000 := by rw [Hcs.out, List.length_append]; omega
          have hBW : B ≤ W.heap.size := by have := Hp6.out.ge 0 g rfl; omega
          have HownL := hide hownL
          have HxsL := hide hxsL
          clear hownL hxsL hgl2
          go_upto_region 11 with
            (at_builtin
             refine wpList_pushA rfl _ _ 40 rfl B 22 i1 (.slice none 0 0) 1 24 Try.underlying40 hi1 hy0 hy1 hy2 rfl (by decide) _ _ _ rfl HownL.out [.slice (some ⟨gC, 0, none⟩) C.length ocC] rfl (by intro u hu; simp at hu; subst hu; rfl) rfl (by omega) (by omega) hBW ?_
             intro O7 oc7 w7 hown7 hg7 hat7
             obtain ⟨hp7, hb7, hk7⟩ := Hp6.out.pushL Hr6.out Hn6.out hvl2 HxsL.out hown7 hg7 hat7
             have hblk7 := (Hp6.out.blk.alloc (.cells #[.slice (some ⟨gC, 0, none⟩) C.length ocC] 22)).grown hg7 (fun e => by
               have := Hp6.out.ap 6 0 g (by show blkO L = some g; rw [← own_blkO]; exact e.symm) rfl
               omega)
             have c7 := hblk7.cell 1
             have c7f := hblk7.frozen 1
             have c7l := hblk7.lt
             simp only [List.getElem?_cons_zero, List.getElem?_cons_succ] at c7
             obtain ⟨hr7, hn7⟩ := hk7 _ _ _ _ Hr6.out Hn6.out
             simp only at hp7
             have Hp7 := hide hp7
             have Hb7 := hide hb7
             have Hr7 := hide hr7
             clear hown7 hg7 hat7 hp7 hb7 hblk7 f0 f1 f2 f3 f4 f5 f6 f7 hk7 hr7 hn7)
          obtain ⟨W2, hW2⟩ : ∃ W2, W2 = w7.setCell ⟨g, 1, none⟩ (.slice O7 (cs.length + 1) oc7) := ⟨_, rfl⟩
          rw [← hW2] at Hp7 Hb7 Hr7 ⊢
          clear hW2 c7 c7f c7l HxsL HownL Hr6 Hn6
          have hlev0 : ∀ y ∈ C, 0 ≤ Lf lev1 (litVar y).toNat := fun y hy => Int.le_of_lt (Hlrn.out.low y hy)
          have hsp : 0 < starts.length := List.length_pos_iff.2 hs0
          obtain ⟨b1, b2, _, _⟩ := backF_spec (Lf lev1) starts.length C 0 (Int.le_refl _) (by omega) hlev0
          obtain ⟨b, hb⟩ : ∃ b : Nat, (b : Int) = backF (Lf lev1) starts.length C 0 := ⟨(backF (Lf lev1) starts.length C 0).toNat, by omega⟩
          have hbs : b < starts.length := by omega
          obtain ⟨s, hs⟩ : ∃ s, starts[b]? = some s := ⟨_, List.getElem?_eq_getElem hbs⟩
          have hsl := Hst1.out.inv.inside s (List.mem_of_getElem? hs)
          have hback := back_ct Hp7.out Hr7.out HclC.out.1 hV
          rw [← hb] at hback
          obtain ⟨hu1, hu2⟩ := Hst1.out.undo Hlrn.out HclC.out hb hs
          have hah2 : Ahead V (cs0 ++ ln ++ [C]) (starts.take b) (t1.take s) (potW V starts t1.length + 1) 0 := fun n h1 h2 h3 => by
            have hlt := h2 hu2
            rw [List.length_take] at hlt
            exact ⟨pot_conflict Hst1.out.inv.rise hs hsl htl1 (by omega), Nat.zero_le _⟩
          have hr2 : Rups cs0 (ln ++ [C]) := Hrups.out.snoc Hlrn.out.rup
          have hundo := fun W3 (hq : Qt W2 W3) => undo_ct (b := b) (s := s) (Hp7.out.keep (hq.below _)) Hst1.out.inv.tr.fits hs hsl hV htl1
          rw [List.append_assoc] at hu1 hah2
          have Hback := hide hback
          have Hu1 := hide hu1
          have Hah2 := hide hah2
          have Hr2 := hide hr2
          have Hundo := hide hundo
          clear hlev0 b1 b2 hb hback hu1 hu2 hah2 hr2 hundo hs
          go_wp2_with fail
          with_reducible refine Hback.out.mono ?_
          rintro e w5 ⟨rfl, hq5⟩
          have hundo := Hundo.out _ hq5
          have Hund2 := hide hundo
          have Hq5 := hide hq5
          clear hundo Hundo hq5
          go_wp2_with fail
          with_reducible refine Hund2.out.mono ?_
          rintro e w9 ⟨he, hb9, hsv9⟩
          unfold Ends at he
          subst he
          rw [Hcs.out, List.append_assoc] at hsv9
          have Hb9 := hide (Hb2.out.trans (Hb6.out.trans (Hb7.out.trans ((Hq5.out.below _).trans hb9))))
          have Hsv9 := hide hsv9
          clear hb9 hsv9
          go_wp2_with fail
          go_roundg gk
          case measure => omega
          case rel => exact ⟨_, ln ++ [C], _, _, _, _, _, potW V starts t1.length + 1, 0, Hb9.out, Hsv9.out, Hu1.out, Hr2.out, (fun D hD => by
            rcases List.mem_append.1 hD with hD | hD
            · exact Hlnc.out D hD
            · simp at hD
              rw [hD]
              exact HclC.out), by simp; omega, by omega, (fun h4 => by
            have := Hln4.out h4
            rw [List.length_append, List.length_singleton]
            omega), Hah2.out, Nat.lt_of_lt_of_le (meas_conf (A := 2 ^ V) (V := V) (tlo := tlo) (tlo' := 0) (show wlo < potW V starts t1.length + 1 by omega) (by omega)) (by omega)⟩
end Go.Proofs.Ytnfeknfakkdbhaa
