/- A copy of a task, by the package macros. -/
import Derived.Test.YtnfeknfakkdbhaaMc5
namespace Go.Proofs.Ytnfeknfakkdbhaa
set_option linter.unusedVariables false
set_option linter.unusedSimpArgs false
open Go.RowKit

set_option maxRecDepth 100000 in
set_option maxHeartbeats 32000000 in
theorem mclone_ct (a : TA) (T : Tsk) (w : World) (h : TkR w a T) (hbI : a.nI ≤ 1000000) (hbG : a.nG ≤ 1000000) (hbO : a.nO ≤ 1000000) (hbo : ∀ o ∈ T.ops, o.pre.length ≤ 1000000 ∧ o.add.length ≤ 1000000 ∧ o.del.length ≤ 1000000) :
    Calls Try.prog 98 #[.agg #[.int .i64 T.facts, .slice a.I a.nI a.cI, .slice a.G a.nG a.cG, .slice a.O a.nO a.cO]] w (CloneP w T a.nI a.nG a.nO) := by
  obtain ⟨I, nI, cI, G, nG, cG, Oo, nO, cO⟩ := a
  simp only at h hbI hbG hbO ⊢
  obtain ⟨i1, hi1, hy0, hy1, hy2⟩ := info_parts opInfoT
  have hlo := h.ops.low
  have hlO := h.ops.len
  simp only at hlo hlO
  have H := hide h
  have HbO := hide hbo
  clear h hbo
  go_enter Try.func98, Try.ntmps98
  go_upto_region 1 with (fail)
  have hT := (boxed2 w 25 25 [.int .i64 T.facts, .slice I nI cI, .slice G nG cG, .slice Oo nO cO] zeroTask).1
  have hR := (boxed2 w 25 25 [.int .i64 T.facts, .slice I nI cI, .slice G nG cG, .slice Oo nO cO] zeroTask).2.1
  have hb0 := below_two w (.cells #[.int .i64 T.facts, .slice I nI cI, .slice G nG cG, .slice Oo nO cO] 25) (.cells #[.int .i64 0, .slice none 0 0, .slice none 0 0, .slice none 0 0] 25)
  unfold zeroTask at hT hR
  have hgs : w.heap.size + 1 < ((w.alloc (.cells #[.int .i64 T.facts, .slice I nI cI, .slice G nG cG, .slice Oo nO cO] 25)).alloc (.cells #[.int .i64 0, .slice none 0 0, .slice none 0 0, .slice none 0 0] 25)).heap.size := by simp
  obtain ⟨W0, hW0⟩ : ∃ W0, W0 = (w.alloc (.cells #[.int .i64 T.facts, .slice I nI cI, .slice G nG cG, .slice Oo nO cO] 25)).alloc (.cells #[.int .i64 0, .slice none 0 0, .slice none 0 0, .slice none 0 0] 25) := ⟨_, rfl⟩
  rw [← hW0] at hT hR hb0 hgs ⊢
  clear hW0
  obtain ⟨gT, hgT⟩ : ∃ g, g = w.heap.size := ⟨_, rfl⟩
  rw [← hgT] at hT hR hgs ⊢
  have HgT := hide hgT
  have HT := hide hT
  have HR := hide hR
  have Hb0 := hide hb0
  clear hgT hT hR hb0
  go_cut [3] (fun s3 wc => ∃ (gO : Nat) (AI : Option Addr) (eI : Nat) (AG : Option Addr) (eG : Nat), s3 = .pointer (some ⟨gO, 0, none⟩) ∧ Blk 25 wc gO [.int .i64 T.facts, .slice AI nI eI, .slice AG nG eG, .slice none 0 0] ∧ Blk 25 wc gT [.int .i64 T.facts, .slice I nI cI, .slice G nG cG, .slice Oo nO cO] ∧ Below W0.heap.size W0 wc ∧ W0.heap.size ≤ gO ∧ gO < wc.heap.size ∧ RdM (fun b => b < W0.heap.size ∨ b = gO ∨ wc.heap.size ≤ b) wc AI nI eI T.init ∧ RdM (fun b => b < W0.heap.size ∨ b = gO ∨ wc.heap.size ≤ b) wc AG nG eG T.goal)
  case first =>
    obtain ⟨c0, c1, c2, c3⟩ := HT.out.cell4
    refine wp_region_held_drew (S := (fun w' => w'.cell? ⟨gT, 0, none⟩ = some (.int .i64 T.facts) ∧ w'.cell? ⟨gT, 1, none⟩ = some (.slice I nI cI) ∧ w'.cell? ⟨gT, 2, none⟩ = some (.slice G nG cG))) (by kernel_rfl) ?_ (fun hHeld => ?_)
    · (try dsimp only); exact ⟨c0, c1, c2⟩
    refine takeM (i := 0) (v := ?_) (some 6) rfl rfl (by kernel_rfl) (by kernel_rfl) (by kernel_rfl) (fun _ _ _ h => h) (Or.inl ⟨by rfl, ?_⟩) (by assumption) ?_
    rotate_left
    · intro w hSw; (try dsimp only at hSw); obtain ⟨s1, s2, s3⟩ := hSw; first | (go_simp; done) | (go_simp; with_reducible rfl)
    try simp only [Act.put, List.setIfInBounds_toArray, List.set_cons_zero, List.set_cons_succ]
    refine takeM (i := 1) (v := ?_) (some 7) rfl rfl (by kernel_rfl) (by kernel_rfl) (by kernel_rfl) (fun _ _ _ h => h) (Or.inl ⟨by rfl, ?_⟩) (by assumption) ?_
    rotate_left
    · intro w hSw; (try dsimp only at hSw); obtain ⟨s1, s2, s3⟩ := hSw; first | (go_simp; done) | (go_simp; with_reducible rfl)
    try simp only [Act.put, List.setIfInBounds_toArray, List.set_cons_zero, List.set_cons_succ]
    refine takeM (i := 2) (v := ?_) (some 8) rfl rfl (by kernel_rfl) (by kernel_rfl) (by kernel_rfl) (fun _ _ _ h => h) (Or.inl ⟨by rfl, ?_⟩) (by assumption) ?_
    rotate_left
    · intro w hSw; (try dsimp only at hSw); obtain ⟨s1, s2, s3⟩ := hSw; first | (go_simp; done) | (go_simp; with_reducible rfl)
    try simp only [Act.put, List.setIfInBounds_toArray, List.set_cons_zero, List.set_cons_succ]
    refine takeM (i := 3) (v := ?_) (some 9) rfl rfl (by kernel_rfl) (by kernel_rfl) (by kernel_rfl) (fun _ _ _ h => h) (Or.inl ⟨by rfl, ?_⟩) (by assumption) ?_
    rotate_left
    · intro w hSw; (try dsimp only at hSw); obtain ⟨s1, s2, s3⟩ := hSw; first | (go_simp; done) | (go_simp; with_reducible rfl)
    try simp only [Act.put, List.setIfInBounds_toArray, List.set_cons_zero, List.set_cons_succ]
    refine takeM (i := 5) (v := ?_) (some 11) rfl rfl (by kernel_rfl) (by kernel_rfl) (by kernel_rfl) (fun _ _ _ h => h) (Or.inl ⟨by rfl, ?_⟩) (by assumption) ?_
    rotate_left
    · intro w hSw; (try dsimp only at hSw); obtain ⟨s1, s2, s3⟩ := hSw; first | (go_simp; done) | (go_simp; with_reducible rfl)
    try simp only [Act.put, List.setIfInBounds_toArray, List.set_cons_zero, List.set_cons_succ]
    refine takeM (i := 6) (v := ?_) (some 12) rfl rfl (by kernel_rfl) (by kernel_rfl) (by kernel_rfl) (fun _ _ _ h => h) (Or.inl ⟨by rfl, ?_⟩) (by assumption) ?_
    rotate_left
    · intro w hSw; (try dsimp only at hSw); obtain ⟨s1, s2, s3⟩ := hSw; first | (go_simp; done) | (go_simp; with_reducible rfl)
    try simp only [Act.put, List.setIfInBounds_toArray, List.set_cons_zero, List.set_cons_succ]
    clear c0 c1 c2 c3
    replace HT := hide (HT.out.qt (Qt.refl W0).drew)
    have Hb := hide ((Below.refl W0.heap.size W0).drew)
    obtain ⟨W1, hW1⟩ : ∃ W1, W1 = W0.drew := ⟨_, rfl⟩
    rw [← hW1] at HT Hb hHeld ⊢
    clear hW1
    refine wpAnyH_ready (rs := [4, 9]) (by kernel_rfl) (by simp) ?_
    refine AllReadyH.cons rfl (fun K hK => ?_) (AllReadyH.cons rfl (fun K hK => ?_) AllReadyH.nil)
    · go_simp
      with_reducible refine (CloneI_ct I nI cI T.init W1 (H.out.init.keep (Hb0.out.trans (Hb.out.mono Hb0.out.size))) (by omega)).mono ?_
      rintro e W2 ⟨hb, AI, eI, rfl, hown⟩
      have HrI := hide (own_low hown Hb.out.size)
      replace HT := hide (HT.out.keep hb)
      replace Hb := hide (Hb.out.trans (hb.mono Hb.out.size))
      clear hb hown
      obtain ⟨c0, c1, c2, c3⟩ := HT.out.cell4
      refine hK.out _ _ ?_ (fun hHeld2 => ?_)
      · (try dsimp only); exact ⟨c0, c1, c2⟩
      clear hK K hHeld
      try simp only [Act.put, List.setIfInBounds_toArray, List.set_cons_zero, List.set_cons_succ]
      have hHeld := hHeld2; clear hHeld2
      clear c0 c1 c2 c3
      refine wpAnyH_ready (rs := [7, 9]) (by kernel_rfl) (by simp) ?_
      refine AllReadyH.cons rfl (fun K hK => ?_) (AllReadyH.cons rfl (fun K hK => ?_) AllReadyH.nil)
      · go_simp
        with_reducible refine (CloneI_ct G nG cG T.goal W2 (H.out.goal.keep (Hb0.out.trans (Hb.out.mono Hb0.out.size))) (by omega)).mono ?_
        rintro e W3 ⟨hb, AG, eG, rfl, hown⟩
        have HrG := hide (own_low hown Hb.out.size)
        replace HrI := hide (own_keep HrI.out hb)
        replace HT := hide (HT.out.keep hb)
        replace Hb := hide (Hb.out.trans (hb.mono Hb.out.size))
        clear hb hown
        obtain ⟨c0, c1, c2, c3⟩ := HT.out.cell4
        refine hK.out _ _ ?_ (fun hHeld2 => ?_)
        · (try dsimp only); exact ⟨c0, c1, c2⟩
        clear hK K hHeld
        try simp only [Act.put, List.setIfInBounds_toArray, List.set_cons_zero, List.set_cons_succ]
        have hHeld := hHeld2; clear hHeld2
        clear c0 c1 c2 c3
        refine takeM (i := 8) (v := ?_) (some 14) rfl rfl (by kernel_rfl) (by kernel_rfl) (by kernel_rfl) (fun _ _ _ h => h) (Or.inl ⟨by rfl, ?_⟩) (by assumption) ?_
        rotate_left
        · intro w hSw; (try dsimp only at hSw); obtain ⟨s1, s2, s3⟩ := hSw; first | (go_simp; done) | (go_simp; with_reducible rfl)
        try simp only [Act.put, List.setIfInBounds_toArray, List.set_cons_zero, List.set_cons_succ]
        refine wpAnyH_ready (rs := [9]) (by kernel_rfl) (by simp) ?_
        refine AllReadyH.cons rfl (fun K hK => ?_) AllReadyH.nil
        · go_simp
          have hb := (Below.refl W3.heap.size W3).alloc (Nat.le_refl _) (.cells #[.int .i64 0, .slice none 0 0, .slice none 0 0, .slice none 0 0] 25)
          have hn := Blk.new W3 25 [.int .i64 0, .slice none 0 0, .slice none 0 0, .slice none 0 0]
          have hneI : ∀ r, blkA AI = some r → r ≠ W3.heap.size := fun r hr => by have := (own_block HrI.out (r := r) (by rw [own_blkA]; exact hr)).1; omega
          have hneG : ∀ r, blkA AG = some r → r ≠ W3.heap.size := fun r hr => by have := (own_block HrG.out (r := r) (by rw [own_blkA]; exact hr)).1; omega
          have geO := Hb.out.size
          obtain ⟨W4, hW2⟩ : ∃ W9, W9 = W3.alloc (.cells #[.int .i64 0, .slice none 0 0, .slice none 0 0, .slice none 0 0] 25) := ⟨_, rfl⟩
          rw [← hW2] at hb hn ⊢
          clear hW2
          replace HT := hide (HT.out.keep hb)
          replace HrI := hide (own_keep HrI.out hb)
          replace HrG := hide (own_keep HrG.out hb)
          replace Hb := hide (Hb.out.trans (hb.mono Hb.out.size))
          clear hb
          generalize W3.heap.size = gO at hn geO hneI hneG ⊢
          have HO := hide hn
          have hTO : gT < gO := by omega
          clear hn
          obtain ⟨c0, c1, c2, c3⟩ := HT.out.cell4
          refine hK.out _ _ ?_ (fun hHeld2 => ?_)
          · (try dsimp only); exact ⟨c0, c1, c2⟩
          clear hK K hHeld
          try simp only [Act.put, List.setIfInBounds_toArray, List.set_cons_zero, List.set_cons_succ]
          have hHeld := hHeld2; clear hHeld2
          clear c0 c1 c2 c3
          refine wpAnyH_ready (rs := [10]) (by kernel_rfl) (by simp) ?_
          refine AllReadyH.cons rfl (fun K hK => ?_) AllReadyH.nil
          have q0 := HO.out.cell 0
          have q1 := HO.out.cell 1
          have q2 := HO.out.cell 2
          have q3 := HO.out.cell 3
          have ql := HO.out.lt
          have qf0 := HO.out.frozen 0
          have qf1 := HO.out.frozen 1
          have qf2 := HO.out.frozen 2
          have qf3 := HO.out.frozen 3
          simp only [List.getElem?_cons_zero, List.getElem?_cons_succ] at q0 q1 q2 q3
          go_simp
          have ho9 := (((HO.out.set 0 (.int .i64 T.facts)).set 1 (.slice AI nI eI)).set 2 (.slice AG nG eG)).set 3 (.slice none 0 0)
          simp only [List.set_cons_zero, List.set_cons_succ] at ho9
          have ht9 := (((HT.out.far (p := ⟨gO, 0, none⟩) (by show gT ≠ gO; omega) (.int .i64 T.facts)).far (p := ⟨gO, 1, none⟩) (by show gT ≠ gO; omega) (.slice AI nI eI)).far (p := ⟨gO, 2, none⟩) (by show gT ≠ gO; omega) (.slice AG nG eG)).far (p := ⟨gO, 3, none⟩) (by show gT ≠ gO; omega) (.slice none 0 0)
          have hc9 : Chg (fun b => b = gO) W4 ((((W4.setCell ⟨gO, 0, none⟩ (.int .i64 T.facts)).setCell ⟨gO, 1, none⟩ (.slice AI nI eI)).setCell ⟨gO, 2, none⟩ (.slice AG nG eG)).setCell ⟨gO, 3, none⟩ (.slice none 0 0)) :=
            (((Chg.set _ gO 0 _).trans (Chg.set _ gO 1 _)).trans (Chg.set _ gO 2 _)).trans (Chg.set _ gO 3 _)
          have hsz9 : ((((W4.setCell ⟨gO, 0, none⟩ (.int .i64 T.facts)).setCell ⟨gO, 1, none⟩ (.slice AI nI eI)).setCell ⟨gO, 2, none⟩ (.slice AG nG eG)).setCell ⟨gO, 3, none⟩ (.slice none 0 0)).heap.size = W4.heap.size := by simp
          obtain ⟨W9, hW9⟩ : ∃ W9, W9 = (((W4.setCell ⟨gO, 0, none⟩ (.int .i64 T.facts)).setCell ⟨gO, 1, none⟩ (.slice AI nI eI)).setCell ⟨gO, 2, none⟩ (.slice AG nG eG)).setCell ⟨gO, 3, none⟩ (.slice none 0 0) := ⟨_, rfl⟩
          rw [← hW9] at ho9 ht9 hc9 hsz9 ⊢
          have hb9 := Hb.out.trans (hc9.below (B := W0.heap.size) (fun i e => by omega) Hb.out.size)
          have xi9 : RdM (fun b => b < W0.heap.size ∨ b = gO ∨ W9.heap.size ≤ b) W9 AI nI eI T.init := (RdM.own (M := fun b => b < W0.heap.size ∨ b = gO ∨ W9.heap.size ≤ b) HrI.out (fun r hr e => by
            have h1 := own_base HrI.out (by rw [own_blkA]; exact hr)
            have h2 := (own_block HrI.out (r := r) (by rw [own_blkA]; exact hr)).1
            have h3 := hneI r hr
            omega) (H.out.init.len) (rd_ints H.out.init)).chg (hc9.mono fun b e => .inr (.inl e))
          have xg9 : RdM (fun b => b < W0.heap.size ∨ b = gO ∨ W9.heap.size ≤ b) W9 AG nG eG T.goal := (RdM.own (M := fun b => b < W0.heap.size ∨ b = gO ∨ W9.heap.size ≤ b) HrG.out (fun r hr e => by
            have h1 := own_base HrG.out (by rw [own_blkA]; exact hr)
            have h2 := (own_block HrG.out (r := r) (by rw [own_blkA]; exact hr)).1
            have h3 := hneG r hr
            omega) (H.out.goal.len) (rd_ints H.out.goal)).chg (hc9.mono fun b e => .inr (.inl e))
          have gl9 : gO < W9.heap.size := by omega
          have ge9 : W0.heap.size ≤ gO := geO
          have t9 := ht9.cell4
          have Ho9 := hide ho9
          have Ht9 := hide ht9
          have Hb9 := hide hb9
          have Xi9 := hide xi9
          have Xg9 := hide xg9
          clear ho9 ht9 hc9 hb9 xi9 xg9 hW9 hsz9
          refine hK.out _ _ ?_ (fun hHeld2 => ?_)
          · (try dsimp only); exact ⟨t9.1, t9.2.1, t9.2.2.1⟩
          clear hK K hHeld
          try simp only [Act.put, List.setIfInBounds_toArray, List.set_cons_zero, List.set_cons_succ]
          have hHeld := hHeld2; clear hHeld2
          clear t9
          refine wpAnyH_done (by kernel_rfl) ?_ _
          go_wp2_with fail
          go_meet
          exact ⟨gO, AI, eI, AG, eG, rfl, Ho9.out, Ht9.out, Hb9.out, ge9, gl9, Xi9.out, Xg9.out⟩
      · go_simp
        have hb := (Below.refl W2.heap.size W2).alloc (Nat.le_refl _) (.cells #[.int .i64 0, .slice none 0 0, .slice none 0 0, .slice none 0 0] 25)
        have hn := Blk.new W2 25 [.int .i64 0, .slice none 0 0, .slice none 0 0, .slice none 0 0]
        have hneI : ∀ r, blkA AI = some r → r ≠ W2.heap.size := fun r hr => by have := (own_block HrI.out (r := r) (by rw [own_blkA]; exact hr)).1; omega
        have geO := Hb.out.size
        obtain ⟨W3, hW2⟩ : ∃ W9, W9 = W2.alloc (.cells #[.int .i64 0, .slice none 0 0, .slice none 0 0, .slice none 0 0] 25) := ⟨_, rfl⟩
        rw [← hW2] at hb hn ⊢
        clear hW2
        replace HT := hide (HT.out.keep hb)
        replace HrI := hide (own_keep HrI.out hb)
        replace Hb := hide (Hb.out.trans (hb.mono Hb.out.size))
        clear hb
        generalize W2.heap.size = gO at hn geO hneI ⊢
        have HO := hide hn
        have hTO : gT < gO := by omega
        clear hn
        obtain ⟨c0, c1, c2, c3⟩ := HT.out.cell4
        refine hK.out _ _ ?_ (fun hHeld2 => ?_)
        · (try dsimp only); exact ⟨c0, c1, c2⟩
        clear hK K hHeld
        try simp only [Act.put, List.setIfInBounds_toArray, List.set_cons_zero, List.set_cons_succ]
        have hHeld := hHeld2; clear hHeld2
        clear c0 c1 c2 c3
        refine wpAnyH_ready (rs := [7]) (by kernel_rfl) (by simp) ?_
        refine AllReadyH.cons rfl (fun K hK => ?_) AllReadyH.nil
        · go_simp
          with_reducible refine (CloneI_ct G nG cG T.goal W3 (H.out.goal.keep (Hb0.out.trans (Hb.out.mono Hb0.out.size))) (by omega)).mono ?_
          rintro e W4 ⟨hb, AG, eG, rfl, hown⟩
          have hneG : ∀ r, blkA AG = some r → r ≠ gO := fun r hr => by have h1 := own_base hown (by rw [own_blkA]; exact hr); have h2 := HO.out.lt; omega
          replace HO := hide (HO.out.keep hb)
          have HrG := hide (own_low hown Hb.out.size)
          replace HrI := hide (own_keep HrI.out hb)
          replace HT := hide (HT.out.keep hb)
          replace Hb := hide (Hb.out.trans (hb.mono Hb.out.size))
          clear hb hown
          obtain ⟨c0, c1, c2, c3⟩ := HT.out.cell4
          refine hK.out _ _ ?_ (fun hHeld2 => ?_)
          · (try dsimp only); exact ⟨c0, c1, c2⟩
          clear hK K hHeld
          try simp only [Act.put, List.setIfInBounds_toArray, List.set_cons_zero, List.set_cons_succ]
          have hHeld := hHeld2; clear hHeld2
          clear c0 c1 c2 c3
          refine takeM (i := 8) (v := ?_) (some 14) rfl rfl (by kernel_rfl) (by kernel_rfl) (by kernel_rfl) (fun _ _ _ h => h) (Or.inl ⟨by rfl, ?_⟩) (by assumption) ?_
          rotate_left
          · intro w hSw; (try dsimp only at hSw); obtain ⟨s1, s2, s3⟩ := hSw; first | (go_simp; done) | (go_simp; with_reducible rfl)
          try simp only [Act.put, List.setIfInBounds_toArray, List.set_cons_zero, List.set_cons_succ]
          refine wpAnyH_ready (rs := [10]) (by kernel_rfl) (by simp) ?_
          refine AllReadyH.cons rfl (fun K hK => ?_) AllReadyH.nil
          have q0 := HO.out.cell 0
          have q1 := HO.out.cell 1
          have q2 := HO.out.cell 2
          have q3 := HO.out.cell 3
          have ql := HO.out.lt
          have qf0 := HO.out.frozen 0
          have qf1 := HO.out.frozen 1
          have qf2 := HO.out.frozen 2
          have qf3 := HO.out.frozen 3
          simp only [List.getElem?_cons_zero, List.getElem?_cons_succ] at q0 q1 q2 q3
          go_simp
          have ho9 := (((HO.out.set 0 (.int .i64 T.facts)).set 1 (.slice AI nI eI)).set 2 (.slice AG nG eG)).set 3 (.slice none 0 0)
          simp only [List.set_cons_zero, List.set_cons_succ] at ho9
          have ht9 := (((HT.out.far (p := ⟨gO, 0, none⟩) (by show gT ≠ gO; omega) (.int .i64 T.facts)).far (p := ⟨gO, 1, none⟩) (by show gT ≠ gO; omega) (.slice AI nI eI)).far (p := ⟨gO, 2, none⟩) (by show gT ≠ gO; omega) (.slice AG nG eG)).far (p := ⟨gO, 3, none⟩) (by show gT ≠ gO; omega) (.slice none 0 0)
          have hc9 : Chg (fun b => b = gO) W4 ((((W4.setCell ⟨gO, 0, none⟩ (.int .i64 T.facts)).setCell ⟨gO, 1, none⟩ (.slice AI nI eI)).setCell ⟨gO, 2, none⟩ (.slice AG nG eG)).setCell ⟨gO, 3, none⟩ (.slice none 0 0)) :=
            (((Chg.set _ gO 0 _).trans (Chg.set _ gO 1 _)).trans (Chg.set _ gO 2 _)).trans (Chg.set _ gO 3 _)
          have hsz9 : ((((W4.setCell ⟨gO, 0, none⟩ (.int .i64 T.facts)).setCell ⟨gO, 1, none⟩ (.slice AI nI eI)).setCell ⟨gO, 2, none⟩ (.slice AG nG eG)).setCell ⟨gO, 3, none⟩ (.slice none 0 0)).heap.size = W4.heap.size := by simp
          obtain ⟨W9, hW9⟩ : ∃ W9, W9 = (((W4.setCell ⟨gO, 0, none⟩ (.int .i64 T.facts)).setCell ⟨gO, 1, none⟩ (.slice AI nI eI)).setCell ⟨gO, 2, none⟩ (.slice AG nG eG)).setCell ⟨gO, 3, none⟩ (.slice none 0 0) := ⟨_, rfl⟩
          rw [← hW9] at ho9 ht9 hc9 hsz9 ⊢
          have hb9 := Hb.out.trans (hc9.below (B := W0.heap.size) (fun i e => by omega) Hb.out.size)
          have xi9 : RdM (fun b => b < W0.heap.size ∨ b = gO ∨ W9.heap.size ≤ b) W9 AI nI eI T.init := (RdM.own (M := fun b => b < W0.heap.size ∨ b = gO ∨ W9.heap.size ≤ b) HrI.out (fun r hr e => by
            have h1 := own_base HrI.out (by rw [own_blkA]; exact hr)
            have h2 := (own_block HrI.out (r := r) (by rw [own_blkA]; exact hr)).1
            have h3 := hneI r hr
            omega) (H.out.init.len) (rd_ints H.out.init)).chg (hc9.mono fun b e => .inr (.inl e))
          have xg9 : RdM (fun b => b < W0.heap.size ∨ b = gO ∨ W9.heap.size ≤ b) W9 AG nG eG T.goal := (RdM.own (M := fun b => b < W0.heap.size ∨ b = gO ∨ W9.heap.size ≤ b) HrG.out (fun r hr e => by
            have h1 := own_base HrG.out (by rw [own_blkA]; exact hr)
            have h2 := (own_block HrG.out (r := r) (by rw [own_blkA]; exact hr)).1
            have h3 := hneG r hr
            omega) (H.out.goal.len) (rd_ints H.out.goal)).chg (hc9.mono fun b e => .inr (.inl e))
          have gl9 : gO < W9.heap.size := by omega
          have ge9 : W0.heap.size ≤ gO := geO
          have t9 := ht9.cell4
          have Ho9 := hide ho9
          have Ht9 := hide ht9
          have Hb9 := hide hb9
          have Xi9 := hide xi9
          have Xg9 := hide xg9
          clear ho9 ht9 hc9 hb9 xi9 xg9 hW9 hsz9
          refine hK.out _ _ ?_ (fun hHeld2 => ?_)
          · (try dsimp only); exact ⟨t9.1, t9.2.1, t9.2.2.1⟩
          clear hK K hHeld
          try simp only [Act.put, List.setIfInBounds_toArray, List.set_cons_zero, List.set_cons_succ]
          have hHeld := hHeld2; clear hHeld2
          clear t9
          refine wpAnyH_done (by kernel_rfl) ?_ _
          go_wp2_with fail
          go_meet
          exact ⟨gO, AI, eI, AG, eG, rfl, Ho9.out, Ht9.out, Hb9.out, ge9, gl9, Xi9.out, Xg9.out⟩
    · go_simp
      have hb := (Below.refl W1.heap.size W1).alloc (Nat.le_refl _) (.cells #[.int .i64 0, .slice none 0 0, .slice none 0 0, .slice none 0 0] 25)
      have hn := Blk.new W1 25 [.int .i64 0, .slice none 0 0, .slice none 0 0, .slice none 0 0]
      have geO := Hb.out.size
      obtain ⟨W2, hW2⟩ : ∃ W9, W9 = W1.alloc (.cells #[.int .i64 0, .slice none 0 0, .slice none 0 0, .slice none 0 0] 25) := ⟨_, rfl⟩
      rw [← hW2] at hb hn ⊢
      clear hW2
      replace HT := hide (HT.out.keep hb)
      replace Hb := hide (Hb.out.trans (hb.mono Hb.out.size))
      clear hb
      generalize W1.heap.size = gO at hn geO  ⊢
      have HO := hide hn
      have hTO : gT < gO := by omega
      clear hn
      obtain ⟨c0, c1, c2, c3⟩ := HT.out.cell4
      refine hK.out _ _ ?_ (fun hHeld2 => ?_)
      · (try dsimp only); exact ⟨c0, c1, c2⟩
      clear hK K hHeld
      try simp only [Act.put, List.setIfInBounds_toArray, List.set_cons_zero, List.set_cons_succ]
      have hHeld := hHeld2; clear hHeld2
      clear c0 c1 c2 c3
      refine wpAnyH_ready (rs := [4]) (by kernel_rfl) (by simp) ?_
      refine AllReadyH.cons rfl (fun K hK => ?_) AllReadyH.nil
      · go_simp
        with_reducible refine (CloneI_ct I nI cI T.init W2 (H.out.init.keep (Hb0.out.trans (Hb.out.mono Hb0.out.size))) (by omega)).mono ?_
        rintro e W3 ⟨hb, AI, eI, rfl, hown⟩
        have hneI : ∀ r, blkA AI = some r → r ≠ gO := fun r hr => by have h1 := own_base hown (by rw [own_blkA]; exact hr); have h2 := HO.out.lt; omega
        replace HO := hide (HO.out.keep hb)
        have HrI := hide (own_low hown Hb.out.size)
        replace HT := hide (HT.out.keep hb)
        replace Hb := hide (Hb.out.trans (hb.mono Hb.out.size))
        clear hb hown
        obtain ⟨c0, c1, c2, c3⟩ := HT.out.cell4
        refine hK.out _ _ ?_ (fun hHeld2 => ?_)
        · (try dsimp only); exact ⟨c0, c1, c2⟩
        clear hK K hHeld
        try simp only [Act.put, List.setIfInBounds_toArray, List.set_cons_zero, List.set_cons_succ]
        have hHeld := hHeld2; clear hHeld2
        clear c0 c1 c2 c3
        refine wpAnyH_ready (rs := [7]) (by kernel_rfl) (by simp) ?_
        refine AllReadyH.cons rfl (fun K hK => ?_) AllReadyH.nil
        · go_simp
          with_reducible refine (CloneI_ct G nG cG T.goal W3 (H.out.goal.keep (Hb0.out.trans (Hb.out.mono Hb0.out.size))) (by omega)).mono ?_
          rintro e W4 ⟨hb, AG, eG, rfl, hown⟩
          have hneG : ∀ r, blkA AG = some r → r ≠ gO := fun r hr => by have h1 := own_base hown (by rw [own_blkA]; exact hr); have h2 := HO.out.lt; omega
          replace HO := hide (HO.out.keep hb)
          have HrG := hide (own_low hown Hb.out.size)
          replace HrI := hide (own_keep HrI.out hb)
          replace HT := hide (HT.out.keep hb)
          replace Hb := hide (Hb.out.trans (hb.mono Hb.out.size))
          clear hb hown
          obtain ⟨c0, c1, c2, c3⟩ := HT.out.cell4
          refine hK.out _ _ ?_ (fun hHeld2 => ?_)
          · (try dsimp only); exact ⟨c0, c1, c2⟩
          clear hK K hHeld
          try simp only [Act.put, List.setIfInBounds_toArray, List.set_cons_zero, List.set_cons_succ]
          have hHeld := hHeld2; clear hHeld2
          clear c0 c1 c2 c3
          refine takeM (i := 8) (v := ?_) (some 14) rfl rfl (by kernel_rfl) (by kernel_rfl) (by kernel_rfl) (fun _ _ _ h => h) (Or.inl ⟨by rfl, ?_⟩) (by assumption) ?_
          rotate_left
          · intro w hSw; (try dsimp only at hSw); obtain ⟨s1, s2, s3⟩ := hSw; first | (go_simp; done) | (go_simp; with_reducible rfl)
          try simp only [Act.put, List.setIfInBounds_toArray, List.set_cons_zero, List.set_cons_succ]
          refine wpAnyH_ready (rs := [10]) (by kernel_rfl) (by simp) ?_
          refine AllReadyH.cons rfl (fun K hK => ?_) AllReadyH.nil
          have q0 := HO.out.cell 0
          have q1 := HO.out.cell 1
          have q2 := HO.out.cell 2
          have q3 := HO.out.cell 3
          have ql := HO.out.lt
          have qf0 := HO.out.frozen 0
          have qf1 := HO.out.frozen 1
          have qf2 := HO.out.frozen 2
          have qf3 := HO.out.frozen 3
          simp only [List.getElem?_cons_zero, List.getElem?_cons_succ] at q0 q1 q2 q3
          go_simp
          have ho9 := (((HO.out.set 0 (.int .i64 T.facts)).set 1 (.slice AI nI eI)).set 2 (.slice AG nG eG)).set 3 (.slice none 0 0)
          simp only [List.set_cons_zero, List.set_cons_succ] at ho9
          have ht9 := (((HT.out.far (p := ⟨gO, 0, none⟩) (by show gT ≠ gO; omega) (.int .i64 T.facts)).far (p := ⟨gO, 1, none⟩) (by show gT ≠ gO; omega) (.slice AI nI eI)).far (p := ⟨gO, 2, none⟩) (by show gT ≠ gO; omega) (.slice AG nG eG)).far (p := ⟨gO, 3, none⟩) (by show gT ≠ gO; omega) (.slice none 0 0)
          have hc9 : Chg (fun b => b = gO) W4 ((((W4.setCell ⟨gO, 0, none⟩ (.int .i64 T.facts)).setCell ⟨gO, 1, none⟩ (.slice AI nI eI)).setCell ⟨gO, 2, none⟩ (.slice AG nG eG)).setCell ⟨gO, 3, none⟩ (.slice none 0 0)) :=
            (((Chg.set _ gO 0 _).trans (Chg.set _ gO 1 _)).trans (Chg.set _ gO 2 _)).trans (Chg.set _ gO 3 _)
          have hsz9 : ((((W4.setCell ⟨gO, 0, none⟩ (.int .i64 T.facts)).setCell ⟨gO, 1, none⟩ (.slice AI nI eI)).setCell ⟨gO, 2, none⟩ (.slice AG nG eG)).setCell ⟨gO, 3, none⟩ (.slice none 0 0)).heap.size = W4.heap.size := by simp
          obtain ⟨W9, hW9⟩ : ∃ W9, W9 = (((W4.setCell ⟨gO, 0, none⟩ (.int .i64 T.facts)).setCell ⟨gO, 1, none⟩ (.slice AI nI eI)).setCell ⟨gO, 2, none⟩ (.slice AG nG eG)).setCell ⟨gO, 3, none⟩ (.slice none 0 0) := ⟨_, rfl⟩
          rw [← hW9] at ho9 ht9 hc9 hsz9 ⊢
          have hb9 := Hb.out.trans (hc9.below (B := W0.heap.size) (fun i e => by omega) Hb.out.size)
          have xi9 : RdM (fun b => b < W0.heap.size ∨ b = gO ∨ W9.heap.size ≤ b) W9 AI nI eI T.init := (RdM.own (M := fun b => b < W0.heap.size ∨ b = gO ∨ W9.heap.size ≤ b) HrI.out (fun r hr e => by
            have h1 := own_base HrI.out (by rw [own_blkA]; exact hr)
            have h2 := (own_block HrI.out (r := r) (by rw [own_blkA]; exact hr)).1
            have h3 := hneI r hr
            omega) (H.out.init.len) (rd_ints H.out.init)).chg (hc9.mono fun b e => .inr (.inl e))
          have xg9 : RdM (fun b => b < W0.heap.size ∨ b = gO ∨ W9.heap.size ≤ b) W9 AG nG eG T.goal := (RdM.own (M := fun b => b < W0.heap.size ∨ b = gO ∨ W9.heap.size ≤ b) HrG.out (fun r hr e => by
            have h1 := own_base HrG.out (by rw [own_blkA]; exact hr)
            have h2 := (own_block HrG.out (r := r) (by rw [own_blkA]; exact hr)).1
            have h3 := hneG r hr
            omega) (H.out.goal.len) (rd_ints H.out.goal)).chg (hc9.mono fun b e => .inr (.inl e))
          have gl9 : gO < W9.heap.size := by omega
          have ge9 : W0.heap.size ≤ gO := geO
          have t9 := ht9.cell4
          have Ho9 := hide ho9
          have Ht9 := hide ht9
          have Hb9 := hide hb9
          have Xi9 := hide xi9
          have Xg9 := hide xg9
          clear ho9 ht9 hc9 hb9 xi9 xg9 hW9 hsz9
          refine hK.out _ _ ?_ (fun hHeld2 => ?_)
          · (try dsimp only); exact ⟨t9.1, t9.2.1, t9.2.2.1⟩
          clear hK K hHeld
          try simp only [Act.put, List.setIfInBounds_toArray, List.set_cons_zero, List.set_cons_succ]
          have hHeld := hHeld2; clear hHeld2
          clear t9
          refine wpAnyH_done (by kernel_rfl) ?_ _
          go_wp2_with fail
          go_meet
          exact ⟨gO, AI, eI, AG, eG, rfl, Ho9.out, Ht9.out, Hb9.out, ge9, gl9, Xi9.out, Xg9.out⟩
  case rest =>
    obtain ⟨gO, AI, eI, AG, eG, rfl, hO, hT, hb, hge, hgl, xi, xg⟩ := hcut
    have hR := HR.out.keep hb
    have hbw := Hb0.out.trans (hb.mono Hb0.out.size)
    clear HT HR
    obtain ⟨H1, hH1⟩ : ∃ H1, H1 = wc.heap.size := ⟨_, rfl⟩
    rw [← hH1] at hgl xi xg
    have hs0 : CpS w wc T [.int .i64 T.facts, .slice I nI cI, .slice G nG cG, .slice Oo nO cO] ⟨gT, gO, W0.heap.size, H1, AI, nI, eI, AG, nG, eG⟩ 0 none 0 [] := ⟨hT, hR, hO, hbw, (OwnE.nil _ _ _ _ _), by show H1 ≤ wc.heap.size; omega, xi, xg, HgT.out, hgs, hge, hgl⟩
    have HS := hide hs0
    clear hH1 hs0 hT hR hO hbw xi xg hb
    obtain ⟨c0, c1, c2, c3⟩ := HS.out.par.cell4
    simp only at c0 c1 c2 c3
    go_wp2_with fail
    go_loopw [18] (fun i wr => ∃ (k : Nat) (O : Option Addr) (oc : Nat) (vs : List Value), k ≤ nO ∧ i = .int .i64 k ∧ CpS w wr T [.int .i64 T.facts, .slice I nI cI, .slice G nG cG, .slice Oo nO cO] ⟨gT, gO, W0.heap.size, H1, AI, nI, eI, AG, nG, eG⟩ k O oc vs) (fun i _ => nO - (intOf i).toNat)
    case atStart => exact ⟨0, none, 0, [], by omega, rfl, HS.out⟩
    case round =>
      clear HS c0 c1 c2 c3
      obtain ⟨k, O, oc, vs, hk, rfl, hS⟩ := hrel
      have HS := hide hS
      have hOsz : ∀ r, blkA O = some r → r < wr.heap.size := fun r hr => (hS.blk hr).2
      obtain ⟨c0, c1, c2, c3⟩ := hS.par.cell4
      simp only at c0 c1 c2 c3
      by_cases hlt : k < nO
      · obtain ⟨b, off, o, A1, n1, d1, A2, n2, d2, A3, n3, d3, rfl, hoq, g0, g1, g2, g3, r1, r2, r3, r4⟩ := H.out.ops.op hlt
        have hb4 := HbO.out o (List.mem_of_getElem? hoq)
        obtain ⟨hb5, hb6, hb7⟩ := hb4
        rw [r1.len] at hb5
        rw [r2.len] at hb6
        rw [r3.len] at hb7
        replace g0 := (hS.low.cell (p := ⟨b, off + k * 4, none⟩) (World.block_lt_of_cell? w _ g0)).trans g0
        replace g1 := (hS.low.cell (p := ⟨b, off + k * 4 + 1, none⟩) (World.block_lt_of_cell? w _ g1)).trans g1
        replace g2 := (hS.low.cell (p := ⟨b, off + k * 4 + 2, none⟩) (World.block_lt_of_cell? w _ g2)).trans g2
        replace g3 := (hS.low.cell (p := ⟨b, off + k * 4 + 3, none⟩) (World.block_lt_of_cell? w _ g3)).trans g3
        have hszr := hS.size
        have hlowr := hS.low.size
        simp only at hszr
        have Hoq := hide hoq
        have L1 := hide r1.len
        have L2 := hide r2.len
        have L3 := hide r3.len
        have J1 := hide (rd_ints r1)
        have J2 := hide (rd_ints r2)
        have J3 := hide (rd_ints r3)
        have Jc := hide r4
        clear hS hoq r4
        go_upto_region 5 with (fail)
        have hY := Blk.new wr 27 [.slice A1 n1 d1, .slice A2 n2 d2, .slice A3 n3 d3, .int .i64 o.cost]
        have hb := (Below.refl wr.heap.size wr).alloc (Nat.le_refl _) (.cells #[.slice A1 n1 d1, .slice A2 n2 d2, .slice A3 n3 d3, .int .i64 o.cost] 27)
        obtain ⟨w4, hw4⟩ : ∃ w4, w4 = wr.alloc (.cells #[.slice A1 n1 d1, .slice A2 n2 d2, .slice A3 n3 d3, .int .i64 o.cost] 27) := ⟨_, rfl⟩
        rw [← hw4] at hY hb ⊢
        replace HS := hide (HS.out.keep hb)
        have hw0 := HS.out.low
        have R1 := hide (r1.keep hw0)
        have R2 := hide (r2.keep hw0)
        have R3 := hide (r3.keep hw0)
        have hH4 : H1 ≤ w4.heap.size := by have := hb.size; omega
        have hOlt : ∀ r, blkA O = some r → r < w4.heap.size := fun r hr => by have := hOsz r hr; have := hb.size; omega
        have hOY : ∀ r, blkA O = some r → r < wr.heap.size := hOsz
        have hgY : H1 ≤ wr.heap.size := hszr
        clear hw4 hb r1 r2 r3 g0 g1 g2 g3 c0 c1 c2 c3 hOsz hszr hw0 hlowr
        generalize wr.heap.size = gY at hY hOY hgY ⊢
        have HY := hide hY
        clear hY
        obtain ⟨z0, z1, z2, z3⟩ := HY.out.cell4
        refine wp_region_held_drew (S := (fun w' => w'.cell? ⟨gY, 0, none⟩ = some (.slice A1 n1 d1) ∧ w'.cell? ⟨gY, 1, none⟩ = some (.slice A2 n2 d2) ∧ w'.cell? ⟨gY, 2, none⟩ = some (.slice A3 n3 d3) ∧ w'.cell? ⟨gY, 3, none⟩ = some (.int .i64 o.cost))) (by kernel_rfl) ?_ (fun hHeld => ?_)
        · (try dsimp only); exact ⟨z0, z1, z2, z3⟩
        refine takeM (i := 0) (v := ?_) (some 22) rfl rfl (by kernel_rfl) (by kernel_rfl) (by kernel_rfl) (fun _ _ _ h => h) (Or.inl ⟨by rfl, ?_⟩) (by assumption) ?_
        rotate_left
        · intro w hSw; (try dsimp only at hSw); obtain ⟨s1, s2, s3, s4⟩ := hSw; first | (go_simp; done) | (go_simp; with_reducible rfl)
        try simp only [Act.put, List.setIfInBounds_toArray, List.set_cons_zero, List.set_cons_succ]
        refine takeM (i := 2) (v := ?_) (some 24) rfl rfl (by kernel_rfl) (by kernel_rfl) (by kernel_rfl) (fun _ _ _ h => h) (Or.inl ⟨by rfl, ?_⟩) (by assumption) ?_
        rotate_left
        · intro w hSw; (try dsimp only at hSw); obtain ⟨s1, s2, s3, s4⟩ := hSw; first | (go_simp; done) | (go_simp; with_reducible rfl)
        try simp only [Act.put, List.setIfInBounds_toArray, List.set_cons_zero, List.set_cons_succ]
        refine takeM (i := 3) (v := ?_) (some 25) rfl rfl (by kernel_rfl) (by kernel_rfl) (by kernel_rfl) (fun _ _ _ h => h) (Or.inl ⟨by rfl, ?_⟩) (by assumption) ?_
        rotate_left
        · intro w hSw; (try dsimp only at hSw); obtain ⟨s1, s2, s3, s4⟩ := hSw; first | (go_simp; done) | (go_simp; with_reducible rfl)
        try simp only [Act.put, List.setIfInBounds_toArray, List.set_cons_zero, List.set_cons_succ]
        refine takeM (i := 5) (v := ?_) (some 27) rfl rfl (by kernel_rfl) (by kernel_rfl) (by kernel_rfl) (fun _ _ _ h => h) (Or.inl ⟨by rfl, ?_⟩) (by assumption) ?_
        rotate_left
        · intro w hSw; (try dsimp only at hSw); obtain ⟨s1, s2, s3, s4⟩ := hSw; first | (go_simp; done) | (go_simp; with_reducible rfl)
        try simp only [Act.put, List.setIfInBounds_toArray, List.set_cons_zero, List.set_cons_succ]
        refine takeM (i := 6) (v := ?_) (some 28) rfl rfl (by kernel_rfl) (by kernel_rfl) (by kernel_rfl) (fun _ _ _ h => h) (Or.inl ⟨by rfl, ?_⟩) (by assumption) ?_
        rotate_left
        · intro w hSw; (try dsimp only at hSw); obtain ⟨s1, s2, s3, s4⟩ := hSw; first | (go_simp; done) | (go_simp; with_reducible rfl)
        try simp only [Act.put, List.setIfInBounds_toArray, List.set_cons_zero, List.set_cons_succ]
        refine takeM (i := 8) (v := ?_) (some 30) rfl rfl (by kernel_rfl) (by kernel_rfl) (by kernel_rfl) (fun _ _ _ h => h) (Or.inl ⟨by rfl, ?_⟩) (by assumption) ?_
        rotate_left
        · intro w hSw; (try dsimp only at hSw); obtain ⟨s1, s2, s3, s4⟩ := hSw; first | (go_simp; done) | (go_simp; with_reducible rfl)
        try simp only [Act.put, List.setIfInBounds_toArray, List.set_cons_zero, List.set_cons_succ]
        refine takeM (i := 9) (v := ?_) (some 31) rfl rfl (by kernel_rfl) (by kernel_rfl) (by kernel_rfl) (fun _ _ _ h => h) (Or.inl ⟨by rfl, ?_⟩) (by assumption) ?_
        rotate_left
        · intro w hSw; (try dsimp only at hSw); obtain ⟨s1, s2, s3, s4⟩ := hSw; first | (go_simp; done) | (go_simp; with_reducible rfl)
        try simp only [Act.put, List.setIfInBounds_toArray, List.set_cons_zero, List.set_cons_succ]
        refine takeM (i := 11) (v := ?_) (some 33) rfl rfl (by kernel_rfl) (by kernel_rfl) (by kernel_rfl) (fun _ _ _ h => h) (Or.inl ⟨by rfl, ?_⟩) (by assumption) ?_
        rotate_left
        · intro w hSw; (try dsimp only at hSw); obtain ⟨s1, s2, s3, s4⟩ := hSw; first | (go_simp; done) | (go_simp; with_reducible rfl)
        try simp only [Act.put, List.setIfInBounds_toArray, List.set_cons_zero, List.set_cons_succ]
        refine takeM (i := 12) (v := ?_) (some 34) rfl rfl (by kernel_rfl) (by kernel_rfl) (by kernel_rfl) (fun _ _ _ h => h) (Or.inl ⟨by rfl, ?_⟩) (by assumption) ?_
        rotate_left
        · intro w hSw; (try dsimp only at hSw); obtain ⟨s1, s2, s3, s4⟩ := hSw; first | (go_simp; done) | (go_simp; with_reducible rfl)
        try simp only [Act.put, List.setIfInBounds_toArray, List.set_cons_zero, List.set_cons_succ]
        clear z0 z1 z2 z3
        replace HY := hide (HY.out.qt (Qt.refl w4).drew)
        replace HS := hide (HS.out.keep ((Qt.refl w4).drew.below _))
        have Hb := hide ((Below.refl w4.heap.size w4).drew)
        obtain ⟨W1, hW1⟩ : ∃ W1, W1 = w4.drew := ⟨_, rfl⟩
        rw [← hW1] at HY HS Hb hHeld ⊢
        clear hW1
        refine wpAnyH_ready (rs := [1, 4]) (by kernel_rfl) (by simp) ?_
        refine AllReadyH.cons rfl (fun K hK => ?_) (AllReadyH.cons rfl (fun K hK => ?_) AllReadyH.nil)
        · skip
          have o3 := HS.out.out.cell4.2.2.2
          obtain ⟨z0, z1, z2, z3⟩ := HY.out.cell4
          go_simp
          refine hK.out _ _ ?_ (fun hHeld2 => ?_)
          · (try dsimp only); exact ⟨z0, z1, z2, z3⟩
          clear hK K hHeld
          try simp only [Act.put, List.setIfInBounds_toArray, List.set_cons_zero, List.set_cons_succ]
          have hHeld := hHeld2; clear hHeld2
          clear z0 z1 z2 z3 o3
          refine wpAnyH_ready (rs := [4]) (by kernel_rfl) (by simp) ?_
          refine AllReadyH.cons rfl (fun K hK => ?_) AllReadyH.nil
          · skip
            go_simp
            with_reducible refine (CloneI_ct A1 n1 d1 o.pre W1 (R1.out.keep Hb.out) (by omega)).mono ?_
            rintro e W2 ⟨hb, D1, e1, rfl, hown⟩
            have C1 := hide (own_low hown Hb.out.size)
            replace HS := hide (HS.out.keep hb)
            replace HY := hide (HY.out.keep hb)
            replace Hb := hide (Hb.out.trans (hb.mono Hb.out.size))
            clear hb hown
            obtain ⟨z0, z1, z2, z3⟩ := HY.out.cell4
            refine hK.out _ _ ?_ (fun hHeld2 => ?_)
            · (try dsimp only); exact ⟨z0, z1, z2, z3⟩
            clear hK K hHeld
            try simp only [Act.put, List.setIfInBounds_toArray, List.set_cons_zero, List.set_cons_succ]
            have hHeld := hHeld2; clear hHeld2
            clear z0 z1 z2 z3
            refine wpAnyH_ready (rs := [7]) (by kernel_rfl) (by simp) ?_
            refine AllReadyH.cons rfl (fun K hK => ?_) AllReadyH.nil
            · skip
              go_simp
              with_reducible refine (CloneI_ct A2 n2 d2 o.add W2 (R2.out.keep Hb.out) (by omega)).mono ?_
              rintro e W3 ⟨hb, D2, e2, rfl, hown⟩
              have C2 := hide (own_low hown Hb.out.size)
              replace HS := hide (HS.out.keep hb)
              replace HY := hide (HY.out.keep hb)
              replace C1 := hide (own_keep C1.out hb)
              replace Hb := hide (Hb.out.trans (hb.mono Hb.out.size))
              clear hb hown
              obtain ⟨z0, z1, z2, z3⟩ := HY.out.cell4
              refine hK.out _ _ ?_ (fun hHeld2 => ?_)
              · (try dsimp only); exact ⟨z0, z1, z2, z3⟩
              clear hK K hHeld
              try simp only [Act.put, List.setIfInBounds_toArray, List.set_cons_zero, List.set_cons_succ]
              have hHeld := hHeld2; clear hHeld2
              clear z0 z1 z2 z3
              refine wpAnyH_ready (rs := [10]) (by kernel_rfl) (by simp) ?_
              refine AllReadyH.cons rfl (fun K hK => ?_) AllReadyH.nil
              · skip
                go_simp
                with_reducible refine (CloneI_ct A3 n3 d3 o.del W3 (R3.out.keep Hb.out) (by omega)).mono ?_
                rintro e W4 ⟨hb, D3, e3, rfl, hown⟩
                have C3 := hide (own_low hown Hb.out.size)
                replace HS := hide (HS.out.keep hb)
                replace HY := hide (HY.out.keep hb)
                replace C1 := hide (own_keep C1.out hb)
                replace C2 := hide (own_keep C2.out hb)
                replace Hb := hide (Hb.out.trans (hb.mono Hb.out.size))
                clear hb hown
                obtain ⟨z0, z1, z2, z3⟩ := HY.out.cell4
                refine hK.out _ _ ?_ (fun hHeld2 => ?_)
                · (try dsimp only); exact ⟨z0, z1, z2, z3⟩
                clear hK K hHeld
                try simp only [Act.put, List.setIfInBounds_toArray, List.set_cons_zero, List.set_cons_succ]
                have hHeld := hHeld2; clear hHeld2
                clear z0 z1 z2 z3
                refine takeM (i := 13) (v := ?_) (some 35) rfl rfl (by kernel_rfl) (by kernel_rfl) (by kernel_rfl) (fun _ _ _ h => h) (Or.inl ⟨by rfl, ?_⟩) (by assumption) ?_
                rotate_left
                · intro w hSw; (try dsimp only at hSw); obtain ⟨s1, s2, s3, s4⟩ := hSw; first | (go_simp; done) | (go_simp; with_reducible rfl)
                try simp only [Act.put, List.setIfInBounds_toArray, List.set_cons_zero, List.set_cons_succ]
                refine wpAnyH_ready (rs := [14]) (by kernel_rfl) (by simp) ?_
                refine AllReadyH.cons rfl (fun K hK => ?_) AllReadyH.nil
                · skip
                  go_simp
                  obtain ⟨z0, z1, z2, z3⟩ := (HY.out.alloc (.cells #[.slice D1 n1 e1, .slice D2 n2 e2, .slice D3 n3 e3, .int .i64 o.cost] 27)).cell4
                  refine hK.out _ _ ?_ (fun hHeld2 => ?_)
                  · (try dsimp only); exact ⟨z0, z1, z2, z3⟩
                  clear hK K hHeld
                  try simp only [Act.put, List.setIfInBounds_toArray, List.set_cons_zero, List.set_cons_succ]
                  have hHeld := hHeld2; clear hHeld2
                  clear z0 z1 z2 z3
                  refine wpAnyH_ready (rs := [15]) (by kernel_rfl) (by simp) ?_
                  refine AllReadyH.cons rfl (fun K hK => ?_) AllReadyH.nil
                  have hfirm := HS.out.firm (b4 := w4.heap.size) hH4 hOlt C1.out C2.out C3.out L1.out L2.out L3.out J1.out J2.out J3.out Jc.out
                  refine step_pushE rfl _ _ 23 rfl H1 27 i1 _ 80 Try.underlying23 hi1 hy0 hy1 hy2 rfl (by decide) (A := O) (n := k) (c := oc) (by first | rfl | (go_simp; done)) HS.out.own (fun r hr => .inl hr) [.slice D1 n1 e1, .slice D2 n2 e2, .slice D3 n3 e3, .int .i64 o.cost] o (by intro u hu; simp at hu; rcases hu with hu | hu | hu | hu <;> subst hu <;> rfl) (by first | rfl | (go_simp; done)) hfirm (by omega) (by omega) HS.out.size ?_
                  intro O6 oc6 w6 hown6 hch6 hat6
                  have hs9 := HS.out.push Hoq.out hown6 hch6 hat6
                  have hnY : ¬ blkA O = some gY := fun e => by have := hOY gY e; omega
                  have hy6 := hch6.blk HY.out hnY
                  have hy9 := hy6.far (p := ⟨gO, 3, none⟩) (by show gY ≠ gO; omega) (.slice O6 (k + 1) oc6)
                  have hnO : ¬ blkA O = some gO := fun e => by
                    have h9 : H1 ≤ gO := (HS.out.blk e).1
                    omega
                  have hq6 := hch6.blk HS.out.out hnO
                  have q3 := hq6.cell 3
                  have ql := hq6.lt
                  have qf := hq6.frozen 3
                  simp only [List.getElem?_cons_zero, List.getElem?_cons_succ] at q3
                  obtain ⟨z0, z1, z2, z3⟩ := hy6.cell4
                  obtain ⟨y0, y1, y2, y3⟩ := hy9.cell4
                  have Hs9 := hide hs9
                  clear hown6 hch6 hat6 hs9 hy6 hy9 hq6 hfirm
                  refine hK.out _ _ ?_ (fun hHeld2 => ?_)
                  · (try dsimp only); exact ⟨z0, z1, z2, z3⟩
                  clear hK K hHeld
                  try simp only [Act.put, List.setIfInBounds_toArray, List.set_cons_zero, List.set_cons_succ]
                  have hHeld := hHeld2; clear hHeld2
                  clear z0 z1 z2 z3
                  refine takeM (i := 16) (v := ?_) (some 38) rfl rfl (by kernel_rfl) (by kernel_rfl) (by kernel_rfl) (fun _ _ _ h => h) (Or.inl ⟨by rfl, ?_⟩) (by assumption) ?_
                  rotate_left
                  · intro w hSw; (try dsimp only at hSw); obtain ⟨s1, s2, s3, s4⟩ := hSw; first | (go_simp; done) | (go_simp; with_reducible rfl)
                  try simp only [Act.put, List.setIfInBounds_toArray, List.set_cons_zero, List.set_cons_succ]
                  refine wpAnyH_ready (rs := [17]) (by kernel_rfl) (by simp) ?_
                  refine AllReadyH.cons rfl (fun K hK => ?_) AllReadyH.nil
                  go_simp
                  refine hK.out _ _ ?_ (fun hHeld2 => ?_)
                  · (try dsimp only); exact ⟨y0, y1, y2, y3⟩
                  clear hK K hHeld
                  try simp only [Act.put, List.setIfInBounds_toArray, List.set_cons_zero, List.set_cons_succ]
                  have hHeld := hHeld2; clear hHeld2
                  refine wpAnyH_done (by kernel_rfl) ?_ _
                  go_wp2_with fail
                  go_roundw
                  case rel => exact ⟨k + 1, O6, oc6, _, by omega, by go_num, Hs9.out⟩
                  case measure => simp [intOf]; omega
        · skip
          go_simp
          with_reducible refine (CloneI_ct A1 n1 d1 o.pre W1 (R1.out.keep Hb.out) (by omega)).mono ?_
          rintro e W2 ⟨hb, D1, e1, rfl, hown⟩
          have C1 := hide (own_low hown Hb.out.size)
          replace HS := hide (HS.out.keep hb)
          replace HY := hide (HY.out.keep hb)
          replace Hb := hide (Hb.out.trans (hb.mono Hb.out.size))
          clear hb hown
          obtain ⟨z0, z1, z2, z3⟩ := HY.out.cell4
          refine hK.out _ _ ?_ (fun hHeld2 => ?_)
          · (try dsimp only); exact ⟨z0, z1, z2, z3⟩
          clear hK K hHeld
          try simp only [Act.put, List.setIfInBounds_toArray, List.set_cons_zero, List.set_cons_succ]
          have hHeld := hHeld2; clear hHeld2
          clear z0 z1 z2 z3
          refine wpAnyH_ready (rs := [1, 7]) (by kernel_rfl) (by simp) ?_
          refine AllReadyH.cons rfl (fun K hK => ?_) (AllReadyH.cons rfl (fun K hK => ?_) AllReadyH.nil)
          · skip
            have o3 := HS.out.out.cell4.2.2.2
            obtain ⟨z0, z1, z2, z3⟩ := HY.out.cell4
            go_simp
            refine hK.out _ _ ?_ (fun hHeld2 => ?_)
            · (try dsimp only); exact ⟨z0, z1, z2, z3⟩
            clear hK K hHeld
            try simp only [Act.put, List.setIfInBounds_toArray, List.set_cons_zero, List.set_cons_succ]
            have hHeld := hHeld2; clear hHeld2
            clear z0 z1 z2 z3 o3
            refine wpAnyH_ready (rs := [7]) (by kernel_rfl) (by simp) ?_
            refine AllReadyH.cons rfl (fun K hK => ?_) AllReadyH.nil
            · skip
              go_simp
              with_reducible refine (CloneI_ct A2 n2 d2 o.add W2 (R2.out.keep Hb.out) (by omega)).mono ?_
              rintro e W3 ⟨hb, D2, e2, rfl, hown⟩
              have C2 := hide (own_low hown Hb.out.size)
              replace HS := hide (HS.out.keep hb)
              replace HY := hide (HY.out.keep hb)
              replace C1 := hide (own_keep C1.out hb)
              replace Hb := hide (Hb.out.trans (hb.mono Hb.out.size))
              clear hb hown
              obtain ⟨z0, z1, z2, z3⟩ := HY.out.cell4
              refine hK.out _ _ ?_ (fun hHeld2 => ?_)
              · (try dsimp only); exact ⟨z0, z1, z2, z3⟩
              clear hK K hHeld
              try simp only [Act.put, List.setIfInBounds_toArray, List.set_cons_zero, List.set_cons_succ]
              have hHeld := hHeld2; clear hHeld2
              clear z0 z1 z2 z3
              refine wpAnyH_ready (rs := [10]) (by kernel_rfl) (by simp) ?_
              refine AllReadyH.cons rfl (fun K hK => ?_) AllReadyH.nil
              · skip
                go_simp
                with_reducible refine (CloneI_ct A3 n3 d3 o.del W3 (R3.out.keep Hb.out) (by omega)).mono ?_
                rintro e W4 ⟨hb, D3, e3, rfl, hown⟩
                have C3 := hide (own_low hown Hb.out.size)
                replace HS := hide (HS.out.keep hb)
                replace HY := hide (HY.out.keep hb)
                replace C1 := hide (own_keep C1.out hb)
                replace C2 := hide (own_keep C2.out hb)
                replace Hb := hide (Hb.out.trans (hb.mono Hb.out.size))
                clear hb hown
                obtain ⟨z0, z1, z2, z3⟩ := HY.out.cell4
                refine hK.out _ _ ?_ (fun hHeld2 => ?_)
                · (try dsimp only); exact ⟨z0, z1, z2, z3⟩
                clear hK K hHeld
                try simp only [Act.put, List.setIfInBounds_toArray, List.set_cons_zero, List.set_cons_succ]
                have hHeld := hHeld2; clear hHeld2
                clear z0 z1 z2 z3
                refine takeM (i := 13) (v := ?_) (some 35) rfl rfl (by kernel_rfl) (by kernel_rfl) (by kernel_rfl) (fun _ _ _ h => h) (Or.inl ⟨by rfl, ?_⟩) (by assumption) ?_
                rotate_left
                · intro w hSw; (try dsimp only at hSw); obtain ⟨s1, s2, s3, s4⟩ := hSw; first | (go_simp; done) | (go_simp; with_reducible rfl)
                try simp only [Act.put, List.setIfInBounds_toArray, List.set_cons_zero, List.set_cons_succ]
                refine wpAnyH_ready (rs := [14]) (by kernel_rfl) (by simp) ?_
                refine AllReadyH.cons rfl (fun K hK => ?_) AllReadyH.nil
                · skip
                  go_simp
                  obtain ⟨z0, z1, z2, z3⟩ := (HY.out.alloc (.cells #[.slice D1 n1 e1, .slice D2 n2 e2, .slice D3 n3 e3, .int .i64 o.cost] 27)).cell4
                  refine hK.out _ _ ?_ (fun hHeld2 => ?_)
                  · (try dsimp only); exact ⟨z0, z1, z2, z3⟩
                  clear hK K hHeld
                  try simp only [Act.put, List.setIfInBounds_toArray, List.set_cons_zero, List.set_cons_succ]
                  have hHeld := hHeld2; clear hHeld2
                  clear z0 z1 z2 z3
                  refine wpAnyH_ready (rs := [15]) (by kernel_rfl) (by simp) ?_
                  refine AllReadyH.cons rfl (fun K hK => ?_) AllReadyH.nil
                  have hfirm := HS.out.firm (b4 := w4.heap.size) hH4 hOlt C1.out C2.out C3.out L1.out L2.out L3.out J1.out J2.out J3.out Jc.out
                  refine step_pushE rfl _ _ 23 rfl H1 27 i1 _ 80 Try.underlying23 hi1 hy0 hy1 hy2 rfl (by decide) (A := O) (n := k) (c := oc) (by first | rfl | (go_simp; done)) HS.out.own (fun r hr => .inl hr) [.slice D1 n1 e1, .slice D2 n2 e2, .slice D3 n3 e3, .int .i64 o.cost] o (by intro u hu; simp at hu; rcases hu with hu | hu | hu | hu <;> subst hu <;> rfl) (by first | rfl | (go_simp; done)) hfirm (by omega) (by omega) HS.out.size ?_
                  intro O6 oc6 w6 hown6 hch6 hat6
                  have hs9 := HS.out.push Hoq.out hown6 hch6 hat6
                  have hnY : ¬ blkA O = some gY := fun e => by have := hOY gY e; omega
                  have hy6 := hch6.blk HY.out hnY
                  have hy9 := hy6.far (p := ⟨gO, 3, none⟩) (by show gY ≠ gO; omega) (.slice O6 (k + 1) oc6)
                  have hnO : ¬ blkA O = some gO := fun e => by
                    have h9 : H1 ≤ gO := (HS.out.blk e).1
                    omega
                  have hq6 := hch6.blk HS.out.out hnO
                  have q3 := hq6.cell 3
                  have ql := hq6.lt
                  have qf := hq6.frozen 3
                  simp only [List.getElem?_cons_zero, List.getElem?_cons_succ] at q3
                  obtain ⟨z0, z1, z2, z3⟩ := hy6.cell4
                  obtain ⟨y0, y1, y2, y3⟩ := hy9.cell4
                  have Hs9 := hide hs9
                  clear hown6 hch6 hat6 hs9 hy6 hy9 hq6 hfirm
                  refine hK.out _ _ ?_ (fun hHeld2 => ?_)
                  · (try dsimp only); exact ⟨z0, z1, z2, z3⟩
                  clear hK K hHeld
                  try simp only [Act.put, List.setIfInBounds_toArray, List.set_cons_zero, List.set_cons_succ]
                  have hHeld := hHeld2; clear hHeld2
                  clear z0 z1 z2 z3
                  refine takeM (i := 16) (v := ?_) (some 38) rfl rfl (by kernel_rfl) (by kernel_rfl) (by kernel_rfl) (fun _ _ _ h => h) (Or.inl ⟨by rfl, ?_⟩) (by assumption) ?_
                  rotate_left
                  · intro w hSw; (try dsimp only at hSw); obtain ⟨s1, s2, s3, s4⟩ := hSw; first | (go_simp; done) | (go_simp; with_reducible rfl)
                  try simp only [Act.put, List.setIfInBounds_toArray, List.set_cons_zero, List.set_cons_succ]
                  refine wpAnyH_ready (rs := [17]) (by kernel_rfl) (by simp) ?_
                  refine AllReadyH.cons rfl (fun K hK => ?_) AllReadyH.nil
                  go_simp
                  refine hK.out _ _ ?_ (fun hHeld2 => ?_)
                  · (try dsimp only); exact ⟨y0, y1, y2, y3⟩
                  clear hK K hHeld
                  try simp only [Act.put, List.setIfInBounds_toArray, List.set_cons_zero, List.set_cons_succ]
                  have hHeld := hHeld2; clear hHeld2
                  refine wpAnyH_done (by kernel_rfl) ?_ _
                  go_wp2_with fail
                  go_roundw
                  case rel => exact ⟨k + 1, O6, oc6, _, by omega, by go_num, Hs9.out⟩
                  case measure => simp [intOf]; omega
          · skip
            go_simp
            with_reducible refine (CloneI_ct A2 n2 d2 o.add W2 (R2.out.keep Hb.out) (by omega)).mono ?_
            rintro e W3 ⟨hb, D2, e2, rfl, hown⟩
            have C2 := hide (own_low hown Hb.out.size)
            replace HS := hide (HS.out.keep hb)
            replace HY := hide (HY.out.keep hb)
            replace C1 := hide (own_keep C1.out hb)
            replace Hb := hide (Hb.out.trans (hb.mono Hb.out.size))
            clear hb hown
            obtain ⟨z0, z1, z2, z3⟩ := HY.out.cell4
            refine hK.out _ _ ?_ (fun hHeld2 => ?_)
            · (try dsimp only); exact ⟨z0, z1, z2, z3⟩
            clear hK K hHeld
            try simp only [Act.put, List.setIfInBounds_toArray, List.set_cons_zero, List.set_cons_succ]
            have hHeld := hHeld2; clear hHeld2
            clear z0 z1 z2 z3
            refine wpAnyH_ready (rs := [1, 10]) (by kernel_rfl) (by simp) ?_
            refine AllReadyH.cons rfl (fun K hK => ?_) (AllReadyH.cons rfl (fun K hK => ?_) AllReadyH.nil)
            · skip
              have o3 := HS.out.out.cell4.2.2.2
              obtain ⟨z0, z1, z2, z3⟩ := HY.out.cell4
              go_simp
              refine hK.out _ _ ?_ (fun hHeld2 => ?_)
              · (try dsimp only); exact ⟨z0, z1, z2, z3⟩
              clear hK K hHeld
              try simp only [Act.put, List.setIfInBounds_toArray, List.set_cons_zero, List.set_cons_succ]
              have hHeld := hHeld2; clear hHeld2
              clear z0 z1 z2 z3 o3
              refine wpAnyH_ready (rs := [10]) (by kernel_rfl) (by simp) ?_
              refine AllReadyH.cons rfl (fun K hK => ?_) AllReadyH.nil
              · skip
                go_simp
                with_reducible refine (CloneI_ct A3 n3 d3 o.del W3 (R3.out.keep Hb.out) (by omega)).mono ?_
                rintro e W4 ⟨hb, D3, e3, rfl, hown⟩
                have C3 := hide (own_low hown Hb.out.size)
                replace HS := hide (HS.out.keep hb)
                replace HY := hide (HY.out.keep hb)
                replace C1 := hide (own_keep C1.out hb)
                replace C2 := hide (own_keep C2.out hb)
                replace Hb := hide (Hb.out.trans (hb.mono Hb.out.size))
                clear hb hown
                obtain ⟨z0, z1, z2, z3⟩ := HY.out.cell4
                refine hK.out _ _ ?_ (fun hHeld2 => ?_)
                · (try dsimp only); exact ⟨z0, z1, z2, z3⟩
                clear hK K hHeld
                try simp only [Act.put, List.setIfInBounds_toArray, List.set_cons_zero, List.set_cons_succ]
                have hHeld := hHeld2; clear hHeld2
                clear z0 z1 z2 z3
                refine takeM (i := 13) (v := ?_) (some 35) rfl rfl (by kernel_rfl) (by kernel_rfl) (by kernel_rfl) (fun _ _ _ h => h) (Or.inl ⟨by rfl, ?_⟩) (by assumption) ?_
                rotate_left
                · intro w hSw; (try dsimp only at hSw); obtain ⟨s1, s2, s3, s4⟩ := hSw; first | (go_simp; done) | (go_simp; with_reducible rfl)
                try simp only [Act.put, List.setIfInBounds_toArray, List.set_cons_zero, List.set_cons_succ]
                refine wpAnyH_ready (rs := [14]) (by kernel_rfl) (by simp) ?_
                refine AllReadyH.cons rfl (fun K hK => ?_) AllReadyH.nil
                · skip
                  go_simp
                  obtain ⟨z0, z1, z2, z3⟩ := (HY.out.alloc (.cells #[.slice D1 n1 e1, .slice D2 n2 e2, .slice D3 n3 e3, .int .i64 o.cost] 27)).cell4
                  refine hK.out _ _ ?_ (fun hHeld2 => ?_)
                  · (try dsimp only); exact ⟨z0, z1, z2, z3⟩
                  clear hK K hHeld
                  try simp only [Act.put, List.setIfInBounds_toArray, List.set_cons_zero, List.set_cons_succ]
                  have hHeld := hHeld2; clear hHeld2
                  clear z0 z1 z2 z3
                  refine wpAnyH_ready (rs := [15]) (by kernel_rfl) (by simp) ?_
                  refine AllReadyH.cons rfl (fun K hK => ?_) AllReadyH.nil
                  have hfirm := HS.out.firm (b4 := w4.heap.size) hH4 hOlt C1.out C2.out C3.out L1.out L2.out L3.out J1.out J2.out J3.out Jc.out
                  refine step_pushE rfl _ _ 23 rfl H1 27 i1 _ 80 Try.underlying23 hi1 hy0 hy1 hy2 rfl (by decide) (A := O) (n := k) (c := oc) (by first | rfl | (go_simp; done)) HS.out.own (fun r hr => .inl hr) [.slice D1 n1 e1, .slice D2 n2 e2, .slice D3 n3 e3, .int .i64 o.cost] o (by intro u hu; simp at hu; rcases hu with hu | hu | hu | hu <;> subst hu <;> rfl) (by first | rfl | (go_simp; done)) hfirm (by omega) (by omega) HS.out.size ?_
                  intro O6 oc6 w6 hown6 hch6 hat6
                  have hs9 := HS.out.push Hoq.out hown6 hch6 hat6
                  have hnY : ¬ blkA O = some gY := fun e => by have := hOY gY e; omega
                  have hy6 := hch6.blk HY.out hnY
                  have hy9 := hy6.far (p := ⟨gO, 3, none⟩) (by show gY ≠ gO; omega) (.slice O6 (k + 1) oc6)
                  have hnO : ¬ blkA O = some gO := fun e => by
                    have h9 : H1 ≤ gO := (HS.out.blk e).1
                    omega
                  have hq6 := hch6.blk HS.out.out hnO
                  have q3 := hq6.cell 3
                  have ql := hq6.lt
                  have qf := hq6.frozen 3
                  simp only [List.getElem?_cons_zero, List.getElem?_cons_succ] at q3
                  obtain ⟨z0, z1, z2, z3⟩ := hy6.cell4
                  obtain ⟨y0, y1, y2, y3⟩ := hy9.cell4
                  have Hs9 := hide hs9
                  clear hown6 hch6 hat6 hs9 hy6 hy9 hq6 hfirm
                  refine hK.out _ _ ?_ (fun hHeld2 => ?_)
                  · (try dsimp only); exact ⟨z0, z1, z2, z3⟩
                  clear hK K hHeld
                  try simp only [Act.put, List.setIfInBounds_toArray, List.set_cons_zero, List.set_cons_succ]
                  have hHeld := hHeld2; clear hHeld2
                  clear z0 z1 z2 z3
                  refine takeM (i := 16) (v := ?_) (some 38) rfl rfl (by kernel_rfl) (by kernel_rfl) (by kernel_rfl) (fun _ _ _ h => h) (Or.inl ⟨by rfl, ?_⟩) (by assumption) ?_
                  rotate_left
                  · intro w hSw; (try dsimp only at hSw); obtain ⟨s1, s2, s3, s4⟩ := hSw; first | (go_simp; done) | (go_simp; with_reducible rfl)
                  try simp only [Act.put, List.setIfInBounds_toArray, List.set_cons_zero, List.set_cons_succ]
                  refine wpAnyH_ready (rs := [17]) (by kernel_rfl) (by simp) ?_
                  refine AllReadyH.cons rfl (fun K hK => ?_) AllReadyH.nil
                  go_simp
                  refine hK.out _ _ ?_ (fun hHeld2 => ?_)
                  · (try dsimp only); exact ⟨y0, y1, y2, y3⟩
                  clear hK K hHeld
                  try simp only [Act.put, List.setIfInBounds_toArray, List.set_cons_zero, List.set_cons_succ]
                  have hHeld := hHeld2; clear hHeld2
                  refine wpAnyH_done (by kernel_rfl) ?_ _
                  go_wp2_with fail
                  go_roundw
                  case rel => exact ⟨k + 1, O6, oc6, _, by omega, by go_num, Hs9.out⟩
                  case measure => simp [intOf]; omega
            · skip
              go_simp
              with_reducible refine (CloneI_ct A3 n3 d3 o.del W3 (R3.out.keep Hb.out) (by omega)).mono ?_
              rintro e W4 ⟨hb, D3, e3, rfl, hown⟩
              have C3 := hide (own_low hown Hb.out.size)
              replace HS := hide (HS.out.keep hb)
              replace HY := hide (HY.out.keep hb)
              replace C1 := hide (own_keep C1.out hb)
              replace C2 := hide (own_keep C2.out hb)
              replace Hb := hide (Hb.out.trans (hb.mono Hb.out.size))
              clear hb hown
              obtain ⟨z0, z1, z2, z3⟩ := HY.out.cell4
              refine hK.out _ _ ?_ (fun hHeld2 => ?_)
              · (try dsimp only); exact ⟨z0, z1, z2, z3⟩
              clear hK K hHeld
              try simp only [Act.put, List.setIfInBounds_toArray, List.set_cons_zero, List.set_cons_succ]
              have hHeld := hHeld2; clear hHeld2
              clear z0 z1 z2 z3
              refine takeM (i := 13) (v := ?_) (some 35) rfl rfl (by kernel_rfl) (by kernel_rfl) (by kernel_rfl) (fun _ _ _ h => h) (Or.inl ⟨by rfl, ?_⟩) (by assumption) ?_
              rotate_left
              · intro w hSw; (try dsimp only at hSw); obtain ⟨s1, s2, s3, s4⟩ := hSw; first | (go_simp; done) | (go_simp; with_reducible rfl)
              try simp only [Act.put, List.setIfInBounds_toArray, List.set_cons_zero, List.set_cons_succ]
              refine wpAnyH_ready (rs := [1, 14]) (by kernel_rfl) (by simp) ?_
              refine AllReadyH.cons rfl (fun K hK => ?_) (AllReadyH.cons rfl (fun K hK => ?_) AllReadyH.nil)
              · skip
                have o3 := HS.out.out.cell4.2.2.2
                obtain ⟨z0, z1, z2, z3⟩ := HY.out.cell4
                go_simp
                refine hK.out _ _ ?_ (fun hHeld2 => ?_)
                · (try dsimp only); exact ⟨z0, z1, z2, z3⟩
                clear hK K hHeld
                try simp only [Act.put, List.setIfInBounds_toArray, List.set_cons_zero, List.set_cons_succ]
                have hHeld := hHeld2; clear hHeld2
                clear z0 z1 z2 z3 o3
                refine wpAnyH_ready (rs := [14]) (by kernel_rfl) (by simp) ?_
                refine AllReadyH.cons rfl (fun K hK => ?_) AllReadyH.nil
                · skip
                  go_simp
                  obtain ⟨z0, z1, z2, z3⟩ := (HY.out.alloc (.cells #[.slice D1 n1 e1, .slice D2 n2 e2, .slice D3 n3 e3, .int .i64 o.cost] 27)).cell4
                  refine hK.out _ _ ?_ (fun hHeld2 => ?_)
                  · (try dsimp only); exact ⟨z0, z1, z2, z3⟩
                  clear hK K hHeld
                  try simp only [Act.put, List.setIfInBounds_toArray, List.set_cons_zero, List.set_cons_succ]
                  have hHeld := hHeld2; clear hHeld2
                  clear z0 z1 z2 z3
                  refine wpAnyH_ready (rs := [15]) (by kernel_rfl) (by simp) ?_
                  refine AllReadyH.cons rfl (fun K hK => ?_) AllReadyH.nil
                  have hfirm := HS.out.firm (b4 := w4.heap.size) hH4 hOlt C1.out C2.out C3.out L1.out L2.out L3.out J1.out J2.out J3.out Jc.out
                  refine step_pushE rfl _ _ 23 rfl H1 27 i1 _ 80 Try.underlying23 hi1 hy0 hy1 hy2 rfl (by decide) (A := O) (n := k) (c := oc) (by first | rfl | (go_simp; done)) HS.out.own (fun r hr => .inl hr) [.slice D1 n1 e1, .slice D2 n2 e2, .slice D3 n3 e3, .int .i64 o.cost] o (by intro u hu; simp at hu; rcases hu with hu | hu | hu | hu <;> subst hu <;> rfl) (by first | rfl | (go_simp; done)) hfirm (by omega) (by omega) HS.out.size ?_
                  intro O6 oc6 w6 hown6 hch6 hat6
                  have hs9 := HS.out.push Hoq.out hown6 hch6 hat6
                  have hnY : ¬ blkA O = some gY := fun e => by have := hOY gY e; omega
                  have hy6 := hch6.blk HY.out hnY
                  have hy9 := hy6.far (p := ⟨gO, 3, none⟩) (by show gY ≠ gO; omega) (.slice O6 (k + 1) oc6)
                  have hnO : ¬ blkA O = some gO := fun e => by
                    have h9 : H1 ≤ gO := (HS.out.blk e).1
                    omega
                  have hq6 := hch6.blk HS.out.out hnO
                  have q3 := hq6.cell 3
                  have ql := hq6.lt
                  have qf := hq6.frozen 3
                  simp only [List.getElem?_cons_zero, List.getElem?_cons_succ] at q3
                  obtain ⟨z0, z1, z2, z3⟩ := hy6.cell4
                  obtain ⟨y0, y1, y2, y3⟩ := hy9.cell4
                  have Hs9 := hide hs9
                  clear hown6 hch6 hat6 hs9 hy6 hy9 hq6 hfirm
                  refine hK.out _ _ ?_ (fun hHeld2 => ?_)
                  · (try dsimp only); exact ⟨z0, z1, z2, z3⟩
                  clear hK K hHeld
                  try simp only [Act.put, List.setIfInBounds_toArray, List.set_cons_zero, List.set_cons_succ]
                  have hHeld := hHeld2; clear hHeld2
                  clear z0 z1 z2 z3
                  refine takeM (i := 16) (v := ?_) (some 38) rfl rfl (by kernel_rfl) (by kernel_rfl) (by kernel_rfl) (fun _ _ _ h => h) (Or.inl ⟨by rfl, ?_⟩) (by assumption) ?_
                  rotate_left
                  · intro w hSw; (try dsimp only at hSw); obtain ⟨s1, s2, s3, s4⟩ := hSw; first | (go_simp; done) | (go_simp; with_reducible rfl)
                  try simp only [Act.put, List.setIfInBounds_toArray, List.set_cons_zero, List.set_cons_succ]
                  refine wpAnyH_ready (rs := [17]) (by kernel_rfl) (by simp) ?_
                  refine AllReadyH.cons rfl (fun K hK => ?_) AllReadyH.nil
                  go_simp
                  refine hK.out _ _ ?_ (fun hHeld2 => ?_)
                  · (try dsimp only); exact ⟨y0, y1, y2, y3⟩
                  clear hK K hHeld
                  try simp only [Act.put, List.setIfInBounds_toArray, List.set_cons_zero, List.set_cons_succ]
                  have hHeld := hHeld2; clear hHeld2
                  refine wpAnyH_done (by kernel_rfl) ?_ _
                  go_wp2_with fail
                  go_roundw
                  case rel => exact ⟨k + 1, O6, oc6, _, by omega, by go_num, Hs9.out⟩
                  case measure => simp [intOf]; omega
              · skip
                go_simp
                obtain ⟨z0, z1, z2, z3⟩ := (HY.out.alloc (.cells #[.slice D1 n1 e1, .slice D2 n2 e2, .slice D3 n3 e3, .int .i64 o.cost] 27)).cell4
                refine hK.out _ _ ?_ (fun hHeld2 => ?_)
                · (try dsimp only); exact ⟨z0, z1, z2, z3⟩
                clear hK K hHeld
                try simp only [Act.put, List.setIfInBounds_toArray, List.set_cons_zero, List.set_cons_succ]
                have hHeld := hHeld2; clear hHeld2
                clear z0 z1 z2 z3
                refine wpAnyH_ready (rs := [1]) (by kernel_rfl) (by simp) ?_
                refine AllReadyH.cons rfl (fun K hK => ?_) AllReadyH.nil
                · skip
                  have o3 := ((HS.out.out.alloc (.cells #[.slice D1 n1 e1, .slice D2 n2 e2, .slice D3 n3 e3, .int .i64 o.cost] 27)).cell4).2.2.2
                  obtain ⟨z0, z1, z2, z3⟩ := (HY.out.alloc (.cells #[.slice D1 n1 e1, .slice D2 n2 e2, .slice D3 n3 e3, .int .i64 o.cost] 27)).cell4
                  go_simp
                  refine hK.out _ _ ?_ (fun hHeld2 => ?_)
                  · (try dsimp only); exact ⟨z0, z1, z2, z3⟩
                  clear hK K hHeld
                  try simp only [Act.put, List.setIfInBounds_toArray, List.set_cons_zero, List.set_cons_succ]
                  have hHeld := hHeld2; clear hHeld2
                  clear z0 z1 z2 z3 o3
                  refine wpAnyH_ready (rs := [15]) (by kernel_rfl) (by simp) ?_
                  refine AllReadyH.cons rfl (fun K hK => ?_) AllReadyH.nil
                  have hfirm := HS.out.firm (b4 := w4.heap.size) hH4 hOlt C1.out C2.out C3.out L1.out L2.out L3.out J1.out J2.out J3.out Jc.out
                  refine step_pushE rfl _ _ 23 rfl H1 27 i1 _ 80 Try.underlying23 hi1 hy0 hy1 hy2 rfl (by decide) (A := O) (n := k) (c := oc) (by first | rfl | (go_simp; done)) HS.out.own (fun r hr => .inl hr) [.slice D1 n1 e1, .slice D2 n2 e2, .slice D3 n3 e3, .int .i64 o.cost] o (by intro u hu; simp at hu; rcases hu with hu | hu | hu | hu <;> subst hu <;> rfl) (by first | rfl | (go_simp; done)) hfirm (by omega) (by omega) HS.out.size ?_
                  intro O6 oc6 w6 hown6 hch6 hat6
                  have hs9 := HS.out.push Hoq.out hown6 hch6 hat6
                  have hnY : ¬ blkA O = some gY := fun e => by have := hOY gY e; omega
                  have hy6 := hch6.blk HY.out hnY
                  have hy9 := hy6.far (p := ⟨gO, 3, none⟩) (by show gY ≠ gO; omega) (.slice O6 (k + 1) oc6)
                  have hnO : ¬ blkA O = some gO := fun e => by
                    have h9 : H1 ≤ gO := (HS.out.blk e).1
                    omega
                  have hq6 := hch6.blk HS.out.out hnO
                  have q3 := hq6.cell 3
                  have ql := hq6.lt
                  have qf := hq6.frozen 3
                  simp only [List.getElem?_cons_zero, List.getElem?_cons_succ] at q3
                  obtain ⟨z0, z1, z2, z3⟩ := hy6.cell4
                  obtain ⟨y0, y1, y2, y3⟩ := hy9.cell4
                  have Hs9 := hide hs9
                  clear hown6 hch6 hat6 hs9 hy6 hy9 hq6 hfirm
                  refine hK.out _ _ ?_ (fun hHeld2 => ?_)
                  · (try dsimp only); exact ⟨z0, z1, z2, z3⟩
                  clear hK K hHeld
                  try simp only [Act.put, List.setIfInBounds_toArray, List.set_cons_zero, List.set_cons_succ]
                  have hHeld := hHeld2; clear hHeld2
                  clear z0 z1 z2 z3
                  refine takeM (i := 16) (v := ?_) (some 38) rfl rfl (by kernel_rfl) (by kernel_rfl) (by kernel_rfl) (fun _ _ _ h => h) (Or.inl ⟨by rfl, ?_⟩) (by assumption) ?_
                  rotate_left
                  · intro w hSw; (try dsimp only at hSw); obtain ⟨s1, s2, s3, s4⟩ := hSw; first | (go_simp; done) | (go_simp; with_reducible rfl)
                  try simp only [Act.put, List.setIfInBounds_toArray, List.set_cons_zero, List.set_cons_succ]
                  refine wpAnyH_ready (rs := [17]) (by kernel_rfl) (by simp) ?_
                  refine AllReadyH.cons rfl (fun K hK => ?_) AllReadyH.nil
                  go_simp
                  refine hK.out _ _ ?_ (fun hHeld2 => ?_)
                  · (try dsimp only); exact ⟨y0, y1, y2, y3⟩
                  clear hK K hHeld
                  try simp only [Act.put, List.setIfInBounds_toArray, List.set_cons_zero, List.set_cons_succ]
                  have hHeld := hHeld2; clear hHeld2
                  refine wpAnyH_done (by kernel_rfl) ?_ _
                  go_wp2_with fail
                  go_roundw
                  case rel => exact ⟨k + 1, O6, oc6, _, by omega, by go_num, Hs9.out⟩
                  case measure => simp [intOf]; omega
      · obtain rfl : k = nO := by omega
        obtain ⟨x0, x1, x2, x3⟩ := hS.out.cell4
        obtain ⟨v0, v1, v2, v3⟩ := hS.res.cell4
        have vf0 := hS.res.frozen 0
        have vf1 := hS.res.frozen 1
        have vf2 := hS.res.frozen 2
        have vf3 := hS.res.frozen 3
        have vl := hS.res.lt
        simp only at x0 x1 x2 x3 v0 v1 v2 v3 vf0 vf1 vf2 vf3 vl
        clear hS
        go_wp2_with fail
        refine bodyPost_ret (v := .agg #[.int .i64 T.facts, .slice AI nI eI, .slice AG nG eG, .slice O k oc]) (by simp [results, Try.results98, go_sem, v0, v1, v2, v3, vl]) rfl ?_
        have hS := HS.out
        have hz := HgT.out
        have hc : Chg (fun b => b = gT + 1) wr ((((wr.setCell ⟨gT + 1, 0, none⟩ (.int .i64 T.facts)).setCell ⟨gT + 1, 1, none⟩ (.slice AI nI eI)).setCell ⟨gT + 1, 2, none⟩ (.slice AG nG eG)).setCell ⟨gT + 1, 3, none⟩ (.slice O k oc)) :=
          (((Chg.set _ _ 0 _).trans (Chg.set _ _ 1 _)).trans (Chg.set _ _ 2 _)).trans (Chg.set _ _ 3 _)
        have hsz : ((((wr.setCell ⟨gT + 1, 0, none⟩ (.int .i64 T.facts)).setCell ⟨gT + 1, 1, none⟩ (.slice AI nI eI)).setCell ⟨gT + 1, 2, none⟩ (.slice AG nG eG)).setCell ⟨gT + 1, 3, none⟩ (.slice O k oc)).heap.size = wr.heap.size := by simp
        have hown := hS.own.chg (M' := fun b => b = gT + 1) hc (fun i e => .inr (.inl (by show i < H1; omega))) (fun r hr e => by have := (hS.blk hr).1; simp only at this; omega)
        rw [List.take_of_length_le (by omega)] at hown
        have hs1 := hS.size
        simp only at hs1
        refine ⟨hS.low.trans (hc.below (B := w.heap.size) (fun i e => by omega) hS.low.size), H1, AI, eI, AG, eG, O, oc, vs, rfl, by omega, by rw [hsz]; exact hs1, ?_, ?_, ?_⟩
        · exact (hS.init.chg (hc.mono fun b e => .inl (by show b < W0.heap.size; omega))).mono (fun i hi e => by rcases e with e | e; exact .inl (by show i < W0.heap.size; omega); exact .inr (.inr e))
        · exact (hS.goal.chg (hc.mono fun b e => .inl (by show b < W0.heap.size; omega))).mono (fun i hi e => by rcases e with e | e; exact .inl (by show i < W0.heap.size; omega); exact .inr (.inr e))
        · rw [hsz]
          exact hown
end Go.Proofs.Ytnfeknfakkdbhaa
