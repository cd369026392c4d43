/- What the law asks for, part 8: Mc6 Mc9 Mj. -/
import Derived.Test.YtemiecammmbjdaaGreatM1
import Derived.Test.YtemiecammmbjdaaGreatM2
import Derived.Test.YtemiecammmbjdaaGreatM3
import Derived.Test.YtemiecammmbjdaaGreatM4
import Derived.Test.YtemiecammmbjdaaGreatM5
import Derived.Test.YtemiecammmbjdaaGreatM6
import Derived.Test.YtemiecammmbjdaaGreatM7
import Derived.BigQuiet
import Derived.Deep.AppendLies
import Derived.Deep.DeepCutAuto
import Derived.Deep.Draws
import Derived.Deep.Fields
import Derived.Deep.LoopGhost
import Derived.Deep.QuietTactic
import Derived.Deep.RegionHeld3
import Derived.Deep.Slices
import Derived.Ground.Names2Prog
import Derived.Ground.SlgnProg
import Derived.Ground.SlsfProg
import Derived.IntWalk
import Derived.Laws.AppendOwnNone
import Derived.Laws.OwnMore
import Derived.Lib.Hide
import Derived.Lib.SlicesCompact
import Derived.Maps.AppendAt
import Derived.Shelf.Slices.Cells
import Derived.Shelf.Slices.Clone
import Derived.Shelf.Slices.CompactI
import Derived.Shelf.Slices.Empties
import Derived.Shelf.Slices.In.SortNone
import Derived.Shelf.Slices.SearchI
import Derived.Shelf.Sort.Plain
import Derived.Sort.OwnSortedInts
import Derived.Test.YtemiecammmbjdaaGreatProg
import Derived.WalkKit
namespace Go.Proofs.YtemiecammmbjdaaGreat
set_option linter.unusedVariables false
set_option linter.unusedSimpArgs false
open Go.RowKit
set_option maxRecDepth 100000 in
set_option maxHeartbeats 32000000 in
theorem mclone_ct (a : TA) (T : Tsk) (w : World) (h : TkR w a T) (hbI : a.nI ≤ 1000000) (hbG : a.nG ≤ 1000000) (hbO : a.nO ≤ 1000000) (hbo : ∀ o ∈ T.ops, o.pre.length ≤ 1000000 ∧ o.add.length ≤ 1000000 ∧ o.del.length ≤ 1000000) :
    Calls Tryz.prog 62 #[.agg #[.int .i64 T.facts, .slice a.I a.nI a.cI, .slice a.G a.nG a.cG, .slice a.O a.nO a.cO]] w (CloneP w T a.nI a.nG a.nO) := by
  obtain ⟨I, nI, cI, G, nG, cG, Oo, nO, cO⟩ := a
  simp only at h hbI hbG hbO ⊢
  obtain ⟨i1, hi1, hy0, hy1, hy2⟩ := info_parts opInfoT
  have hlo := h.ops.low
  have hlO := h.ops.len
  simp only at hlo hlO
  have H := hide h
  have HbO := hide hbo
  clear h hbo
  go_enter Tryz.func62, Tryz.ntmps62
  go_upto_region 1 with (fail)
  have hT := (boxed2 w 25 25 [.int .i64 T.facts, .slice I nI cI, .slice G nG cG, .slice Oo nO cO] zeroTask).1
  have hR := (boxed2 w 25 25 [.int .i64 T.facts, .slice I nI cI, .slice G nG cG, .slice Oo nO cO] zeroTask).2.1
  have hb0 := below_two w (.cells #[.int .i64 T.facts, .slice I nI cI, .slice G nG cG, .slice Oo nO cO] 25) (.cells #[.int .i64 0, .slice none 0 0, .slice none 0 0, .slice none 0 0] 25)
  unfold zeroTask at hT hR
  have hgs : w.heap.size + 1 < ((w.alloc (.cells #[.int .i64 T.facts, .slice I nI cI, .slice G nG cG, .slice Oo nO cO] 25)).alloc (.cells #[.int .i64 0, .slice none 0 0, .slice none 0 0, .slice none 0 0] 25)).heap.size := by simp
  obtain ⟨W0, hW0⟩ : ∃ W0, W0 = (w.alloc (.cells #[.int .i64 T.facts, .slice I nI cI, .slice G nG cG, .slice Oo nO cO] 25)).alloc (.cells #[.int .i64 0, .slice none 0 0, .slice none 0 0, .slice none 0 0] 25) := ⟨_, rfl⟩
  rw [← hW0] at hT hR hb0 hgs ⊢
  clear hW0
  obtain ⟨gT, hgT⟩ : ∃ g, g = w.heap.size := ⟨_, rfl⟩
  rw [← hgT] at hT hR hgs ⊢
  have HgT := hide hgT
  have HT := hide hT
  have HR := hide hR
  have Hb0 := hide hb0
  clear hgT hT hR hb0
  go_cut [3] (fun s3 wc => ∃ (gO : Nat) (AI : Option Addr) (eI : Nat) (AG : Option Addr) (eG : Nat), s3 = .pointer (some ⟨gO, 0, none⟩) ∧ Blk 25 wc gO [.int .i64 T.facts, .slice AI nI eI, .slice AG nG eG, .slice none 0 0] ∧ Blk 25 wc gT [.int .i64 T.facts, .slice I nI cI, .slice G nG cG, .slice Oo nO cO] ∧ Below W0.heap.size W0 wc ∧ W0.heap.size ≤ gO ∧ gO < wc.heap.size ∧ RdM (fun b => b < W0.heap.size ∨ b = gO ∨ wc.heap.size ≤ b) wc AI nI eI T.init ∧ RdM (fun b => b < W0.heap.size ∨ b = gO ∨ wc.heap.size ≤ b) wc AG nG eG T.goal)
  case first =>
    obtain ⟨c0, c1, c2, c3⟩ := HT.out.cell4
    refine wp_region_held_drew (S := (fun w' => w'.cell? ⟨gT, 0, none⟩ = some (.int .i64 T.facts) ∧ w'.cell? ⟨gT, 1, none⟩ = some (.slice I nI cI) ∧ w'.cell? ⟨gT, 2, none⟩ = some (.slice G nG cG))) (by kernel_rfl) ?_ (fun hHeld => ?_)
    · (try dsimp only); exact ⟨c0, c1, c2⟩
    refine takeM (i := 0) (v := ?_) (some 6) rfl rfl (by kernel_rfl) (by kernel_rfl) (by kernel_rfl) (fun _ _ _ h => h) (Or.inl ⟨by rfl, ?_⟩) (by assumption) ?_
    rotate_left
    · intro w hSw; (try dsimp only at hSw); obtain ⟨s1, s2, s3⟩ := hSw; first | (go_simp; done) | (go_simp; with_reducible rfl)
    try simp only [Act.put, List.setIfInBounds_toArray, List.set_cons_zero, List.set_cons_succ]
    refine takeM (i := 1) (v := ?_) (some 7) rfl rfl (by kernel_rfl) (by kernel_rfl) (by kernel_rfl) (fun _ _ _ h => h) (Or.inl ⟨by rfl, ?_⟩) (by assumption) ?_
    rotate_left
    · intro w hSw; (try dsimp only at hSw); obtain ⟨s1, s2, s3⟩ := hSw; first | (go_simp; done) | (go_simp; with_reducible rfl)
    try simp only [Act.put, List.setIfInBounds_toArray, List.set_cons_zero, List.set_cons_succ]
    refine takeM (i := 2) (v := ?_) (some 8) rfl rfl (by kernel_rfl) (by kernel_rfl) (by kernel_rfl) (fun _ _ _ h => h) (Or.inl ⟨by rfl, ?_⟩) (by assumption) ?_
    rotate_left
    · intro w hSw; (try dsimp only at hSw); obtain ⟨s1, s2, s3⟩ := hSw; first | (go_simp; done) | (go_simp; with_reducible rfl)
    try simp only [Act.put, List.setIfInBounds_toArray, List.set_cons_zero, List.set_cons_succ]
    refine takeM (i := 3) (v := ?_) (some 9) rfl rfl (by kernel_rfl) (by kernel_rfl) (by kernel_rfl) (fun _ _ _ h => h) (Or.inl ⟨by rfl, ?_⟩) (by assumption) ?_
    rotate_left
    · intro w hSw; (try dsimp only at hSw); obtain ⟨s1, s2, s3⟩ := hSw; first | (go_simp; done) | (go_simp; with_reducible rfl)
    try simp only [Act.put, List.setIfInBounds_toArray, List.set_cons_zero, List.set_cons_succ]
    refine takeM (i := 5) (v := ?_) (some 11) rfl rfl (by kernel_rfl) (by kernel_rfl) (by kernel_rfl) (fun _ _ _ h => h) (Or.inl ⟨by rfl, ?_⟩) (by assumption) ?_
    rotate_left
    · intro w hSw; (try dsimp only at hSw); obtain ⟨s1, s2, s3⟩ := hSw; first | (go_simp; done) | (go_simp; with_reducible rfl)
    try simp only [Act.put, List.setIfInBounds_toArray, List.set_cons_zero, List.set_cons_succ]
    refine takeM (i := 6) (v := ?_) (some 12) rfl rfl (by kernel_rfl) (by kernel_rfl) (by kernel_rfl) (fun _ _ _ h => h) (Or.inl ⟨by rfl, ?_⟩) (by assumption) ?_
    rotate_left
    · intro w hSw; (try dsimp only at hSw); obtain ⟨s1, s2, s3⟩ := hSw; first | (go_simp; done) | (go_simp; with_reducible rfl)
    try simp only [Act.put, List.setIfInBounds_toArray, List.set_cons_zero, List.set_cons_succ]
    clear c0 c1 c2 c3
    replace HT := hide (HT.out.qt (Qt.refl W0).drew)
    have Hb := hide ((Below.refl W0.heap.size W0).drew)
    obtain ⟨W1, hW1⟩ : ∃ W1, W1 = W0.drew := ⟨_, rfl⟩
    rw [← hW1] at HT Hb hHeld ⊢
    clear hW1
    refine wpAnyH_ready (rs := [4, 9]) (by kernel_rfl) (by simp) ?_
    refine AllReadyH.cons rfl (fun K hK => ?_) (AllReadyH.cons rfl (fun K hK => ?_) AllReadyH.nil)
    · go_simp
      with_reducible refine (CloneI_ct I nI cI T.init W1 (H.out.init.keep (Hb0.out.trans (Hb.out.mono Hb0.out.size))) (by omega)).mono ?_
      rintro e W2 ⟨hb, AI, eI, rfl, hown⟩
      have HrI := hide (own_low hown Hb.out.size)
      replace HT := hide (HT.out.keep hb)
      replace Hb := hide (Hb.out.trans (hb.mono Hb.out.size))
      clear hb hown
      obtain ⟨c0, c1, c2, c3⟩ := HT.out.cell4
      refine hK.out _ _ ?_ (fun hHeld2 => ?_)
      · (try dsimp only); exact ⟨c0, c1, c2⟩
      clear hK K hHeld
      try simp only [Act.put, List.setIfInBounds_toArray, List.set_cons_zero, List.set_cons_succ]
      have hHeld := hHeld2; clear hHeld2
      clear c0 c1 c2 c3
      refine wpAnyH_ready (rs := [7, 9]) (by kernel_rfl) (by simp) ?_
      refine AllReadyH.cons rfl (fun K hK => ?_) (AllReadyH.cons rfl (fun K hK => ?_) AllReadyH.nil)
      · go_simp
        with_reducible refine (CloneI_ct G nG cG T.goal W2 (H.out.goal.keep (Hb0.out.trans (Hb.out.mono Hb0.out.size))) (by omega)).mono ?_
        rintro e W3 ⟨hb, AG, eG, rfl, hown⟩
        have HrG := hide (own_low hown Hb.out.size)
        replace HrI := hide (own_keep HrI.out hb)
        replace HT := hide (HT.out.keep hb)
        replace Hb := hide (Hb.out.trans (hb.mono Hb.out.size))
        clear hb hown
        obtain ⟨c0, c1, c2, c3⟩ := HT.out.cell4
        refine hK.out _ _ ?_ (fun hHeld2 => ?_)
        · (try dsimp only); exact ⟨c0, c1, c2⟩
        clear hK K hHeld
        try simp only [Act.put, List.setIfInBounds_toArray, List.set_cons_zero, List.set_cons_succ]
        have hHeld := hHeld2; clear hHeld2
        clear c0 c1 c2 c3
        refine takeM (i := 8) (v := ?_) (some 14) rfl rfl (by kernel_rfl) (by kernel_rfl) (by kernel_rfl) (fun _ _ _ h => h) (Or.inl ⟨by rfl, ?_⟩) (by assumption) ?_
        rotate_left
        · intro w hSw; (try dsimp only at hSw); obtain ⟨s1, s2, s3⟩ := hSw; first | (go_simp; done) | (go_simp; with_reducible rfl)
        try simp only [Act.put, List.setIfInBounds_toArray, List.set_cons_zero, List.set_cons_succ]
        refine wpAnyH_ready (rs := [9]) (by kernel_rfl) (by simp) ?_
        refine AllReadyH.cons rfl (fun K hK => ?_) AllReadyH.nil
        · go_simp
          have hb := (Below.refl W3.heap.size W3).alloc (Nat.le_refl _) (.cells #[.int .i64 0, .slice none 0 0, .slice none 0 0, .slice none 0 0] 25)
          have hn := Blk.new W3 25 [.int .i64 0, .slice none 0 0, .slice none 0 0, .slice none 0 0]
          have hneI : ∀ r, blkA AI = some r → r ≠ W3.heap.size := fun r hr => by have := (own_block HrI.out (r := r) (by rw [own_blkA]; exact hr)).1; omega
          have hneG : ∀ r, blkA AG = some r → r ≠ W3.heap.size := fun r hr => by have := (own_block HrG.out (r := r) (by rw [own_blkA]; exact hr)).1; omega
          have geO := Hb.out.size
          obtain ⟨W4, hW2⟩ : ∃ W9, W9 = W3.alloc (.cells #[.int .i64 0, .slice none 0 0, .slice none 0 0, .slice none 0 0] 25) := ⟨_, rfl⟩
          rw [← hW2] at hb hn ⊢
          clear hW2
          replace HT := hide (HT.out.keep hb)
          replace HrI := hide (own_keep HrI.out hb)
          replace HrG := hide (own_keep HrG.out hb)
          replace Hb := hide (Hb.out.trans (hb.mono Hb.out.size))
          clear hb
          generalize W3.heap.size = gO at hn geO hneI hneG ⊢
          have HO := hide hn
          have hTO : gT < gO := by omega
          clear hn
          obtain ⟨c0, c1, c2, c3⟩ := HT.out.cell4
          refine hK.out _ _ ?_ (fun hHeld2 => ?_)
          · (try dsimp only); exact ⟨c0, c1, c2⟩
          clear hK K hHeld
          try simp only [Act.put, List.setIfInBounds_toArray, List.set_cons_zero, List.set_cons_succ]
          have hHeld := hHeld2; clear hHeld2
          clear c0 c1 c2 c3
          refine wpAnyH_ready (rs := [10]) (by kernel_rfl) (by simp) ?_
          refine AllReadyH.cons rfl (fun K hK => ?_) AllReadyH.nil
          have q0 := HO.out.cell 0
          have q1 := HO.out.cell 1
          have q2 := HO.out.cell 2
          have q3 := HO.out.cell 3
          have ql := HO.out.lt
          have qf0 := HO.out.frozen 0
          have qf1 := HO.out.frozen 1
          have qf2 := HO.out.frozen 2
          have qf3 := HO.out.frozen 3
          simp only [List.getElem?_cons_zero, List.getElem?_cons_succ] at q0 q1 q2 q3
          go_simp
          have ho9 := (((HO.out.set 0 (.int .i64 T.facts)).set 1 (.slice AI nI eI)).set 2 (.slice AG nG eG)).set 3 (.slice none 0 0)
          simp only [List.set_cons_zero, List.set_cons_succ] at ho9
          have ht9 := (((HT.out.far (p := ⟨gO, 0, none⟩) (by show gT ≠ gO; omega) (.int .i64 T.facts)).far (p := ⟨gO, 1, none⟩) (by show gT ≠ gO; omega) (.slice AI nI eI)).far (p := ⟨gO, 2, none⟩) (by show gT ≠ gO; omega) (.slice AG nG eG)).far (p := ⟨gO, 3, none⟩) (by show gT ≠ gO; omega) (.slice none 0 0)
          have hc9 : Chg (fun b => b = gO) W4 ((((W4.setCell ⟨gO, 0, none⟩ (.int .i64 T.facts)).setCell ⟨gO, 1, none⟩ (.slice AI nI eI)).setCell ⟨gO, 2, none⟩ (.slice AG nG eG)).setCell ⟨gO, 3, none⟩ (.slice none 0 0)) :=
            (((Chg.set _ gO 0 _).trans (Chg.set _ gO 1 _)).trans (Chg.set _ gO 2 _)).trans (Chg.set _ gO 3 _)
          have hsz9 : ((((W4.setCell ⟨gO, 0, none⟩ (.int .i64 T.facts)).setCell ⟨gO, 1, none⟩ (.slice AI nI eI)).setCell ⟨gO, 2, none⟩ (.slice AG nG eG)).setCell ⟨gO, 3, none⟩ (.slice none 0 0)).heap.size = W4.heap.size := by simp
          obtain ⟨W9, hW9⟩ : ∃ W9, W9 = (((W4.setCell ⟨gO, 0, none⟩ (.int .i64 T.facts)).setCell ⟨gO, 1, none⟩ (.slice AI nI eI)).setCell ⟨gO, 2, none⟩ (.slice AG nG eG)).setCell ⟨gO, 3, none⟩ (.slice none 0 0) := ⟨_, rfl⟩
          rw [← hW9] at ho9 ht9 hc9 hsz9 ⊢
          have hb9 := Hb.out.trans (hc9.below (B := W0.heap.size) (fun i e => by omega) Hb.out.size)
          have xi9 : RdM (fun b => b < W0.heap.size ∨ b = gO ∨ W9.heap.size ≤ b) W9 AI nI eI T.init := (RdM.own (M := fun b => b < W0.heap.size ∨ b = gO ∨ W9.heap.size ≤ b) HrI.out (fun r hr e => by
            have h1 := own_base HrI.out (by rw [own_blkA]; exact hr)
            have h2 := (own_block HrI.out (r := r) (by rw [own_blkA]; exact hr)).1
            have h3 := hneI r hr
            omega) (H.out.init.len) (rd_ints H.out.init)).chg (hc9.mono fun b e => .inr (.inl e))
          have xg9 : RdM (fun b => b < W0.heap.size ∨ b = gO ∨ W9.heap.size ≤ b) W9 AG nG eG T.goal := (RdM.own (M := fun b => b < W0.heap.size ∨ b = gO ∨ W9.heap.size ≤ b) HrG.out (fun r hr e => by
            have h1 := own_base HrG.out (by rw [own_blkA]; exact hr)
            have h2 := (own_block HrG.out (r := r) (by rw [own_blkA]; exact hr)).1
            have h3 := hneG r hr
            omega) (H.out.goal.len) (rd_ints H.out.goal)).chg (hc9.mono fun b e => .inr (.inl e))
          have gl9 : gO < W9.heap.size := by omega
          have ge9 : W0.heap.size ≤ gO := geO
          have t9 := ht9.cell4
          have Ho9 := hide ho9
          have Ht9 := hide ht9
          have Hb9 := hide hb9
          have Xi9 := hide xi9
          have Xg9 := hide xg9
          clear ho9 ht9 hc9 hb9 xi9 xg9 hW9 hsz9
          refine hK.out _ _ ?_ (fun hHeld2 => ?_)
          · (try dsimp only); exact ⟨t9.1, t9.2.1, t9.2.2.1⟩
          clear hK K hHeld
          try simp only [Act.put, List.setIfInBounds_toArray, List.set_cons_zero, List.set_cons_succ]
          have hHeld := hHeld2; clear hHeld2
          clear t9
          refine wpAnyH_done (by kernel_rfl) ?_ _
          go_wp2_with fail
          go_meet
          exact ⟨gO, AI, eI, AG, eG, rfl, Ho9.out, Ht9.out, Hb9.out, ge9, gl9, Xi9.out, Xg9.out⟩
      · go_simp
        have hb := (Below.refl W2.heap.size W2).alloc (Nat.le_refl _) (.cells #[.int .i64 0, .slice none 0 0, .slice none 0 0, .slice none 0 0] 25)
        have hn := Blk.new W2 25 [.int .i64 0, .slice none 0 0, .slice none 0 0, .slice none 0 0]
        have hneI : ∀ r, blkA AI = some r → r ≠ W2.heap.size := fun r hr => by have := (own_block HrI.out (r := r) (by rw [own_blkA]; exact hr)).1; omega
        have geO := Hb.out.size
        obtain ⟨W3, hW2⟩ : ∃ W9, W9 = W2.alloc (.cells #[.int .i64 0, .slice none 0 0, .slice none 0 0, .slice none 0 0] 25) := ⟨_, rfl⟩
        rw [← hW2] at hb hn ⊢
        clear hW2
        replace HT := hide (HT.out.keep hb)
        replace HrI := hide (own_keep HrI.out hb)
        replace Hb := hide (Hb.out.trans (hb.mono Hb.out.size))
        clear hb
        generalize W2.heap.size = gO at hn geO hneI ⊢
        have HO := hide hn
        have hTO : gT < gO := by omega
        clear hn
        obtain ⟨c0, c1, c2, c3⟩ := HT.out.cell4
        refine hK.out _ _ ?_ (fun hHeld2 => ?_)
        · (try dsimp only); exact ⟨c0, c1, c2⟩
        clear hK K hHeld
        try simp only [Act.put, List.setIfInBounds_toArray, List.set_cons_zero, List.set_cons_succ]
        have hHeld := hHeld2; clear hHeld2
        clear c0 c1 c2 c3
        refine wpAnyH_ready (rs := [7]) (by kernel_rfl) (by simp) ?_
        refine AllReadyH.cons rfl (fun K hK => ?_) AllReadyH.nil
        · go_simp
          with_reducible refine (CloneI_ct G nG cG T.goal W3 (H.out.goal.keep (Hb0.out.trans (Hb.out.mono Hb0.out.size))) (by omega)).mono ?_
          rintro e W4 ⟨hb, AG, eG, rfl, hown⟩
          have hneG : ∀ r, blkA AG = some r → r ≠ gO := fun r hr => by have h1 := own_base hown (by rw [own_blkA]; exact hr); have h2 := HO.out.lt; omega
          replace HO := hide (HO.out.keep hb)
          have HrG := hide (own_low hown Hb.out.size)
          replace HrI := hide (own_keep HrI.out hb)
          replace HT := hide (HT.out.keep hb)
          replace Hb := hide (Hb.out.trans (hb.mono Hb.out.size))
          clear hb hown
          obtain ⟨c0, c1, c2, c3⟩ := HT.out.cell4
          refine hK.out _ _ ?_ (fun hHeld2 => ?_)
          · (try dsimp only); exact ⟨c0, c1, c2⟩
          clear hK K hHeld
          try simp only [Act.put, List.setIfInBounds_toArray, List.set_cons_zero, List.set_cons_succ]
          have hHeld := hHeld2; clear hHeld2
          clear c0 c1 c2 c3
          refine takeM (i := 8) (v := ?_) (some 14) rfl rfl (by kernel_rfl) (by kernel_rfl) (by kernel_rfl) (fun _ _ _ h => h) (Or.inl ⟨by rfl, ?_⟩) (by assumption) ?_
          rotate_left
          · intro w hSw; (try dsimp only at hSw); obtain ⟨s1, s2, s3⟩ := hSw; first | (go_simp; done) | (go_simp; with_reducible rfl)
          try simp only [Act.put, List.setIfInBounds_toArray, List.set_cons_zero, List.set_cons_succ]
          refine wpAnyH_ready (rs := [10]) (by kernel_rfl) (by simp) ?_
          refine AllReadyH.cons rfl (fun K hK => ?_) AllReadyH.nil
          have q0 := HO.out.cell 0
          have q1 := HO.out.cell 1
          have q2 := HO.out.cell 2
          have q3 := HO.out.cell 3
          have ql := HO.out.lt
          have qf0 := HO.out.frozen 0
          have qf1 := HO.out.frozen 1
          have qf2 := HO.out.frozen 2
          have qf3 := HO.out.frozen 3
          simp only [List.getElem?_cons_zero, List.getElem?_cons_succ] at q0 q1 q2 q3
          go_simp
          have ho9 := (((HO.out.set 0 (.int .i64 T.facts)).set 1 (.slice AI nI eI)).set 2 (.slice AG nG eG)).set 3 (.slice none 0 0)
          simp only [List.set_cons_zero, List.set_cons_succ] at ho9
          have ht9 := (((HT.out.far (p := ⟨gO, 0, none⟩) (by show gT ≠ gO; omega) (.int .i64 T.facts)).far (p := ⟨gO, 1, none⟩) (by show gT ≠ gO; omega) (.slice AI nI eI)).far (p := ⟨gO, 2, none⟩) (by show gT ≠ gO; omega) (.slice AG nG eG)).far (p := ⟨gO, 3, none⟩) (by show gT ≠ gO; omega) (.slice none 0 0)
          have hc9 : Chg (fun b => b = gO) W4 ((((W4.setCell ⟨gO, 0, none⟩ (.int .i64 T.facts)).setCell ⟨gO, 1, none⟩ (.slice AI nI eI)).setCell ⟨gO, 2, none⟩ (.slice AG nG eG)).setCell ⟨gO, 3, none⟩ (.slice none 0 0)) :=
            (((Chg.set _ gO 0 _).trans (Chg.set _ gO 1 _)).trans (Chg.set _ gO 2 _)).trans (Chg.set _ gO 3 _)
          have hsz9 : ((((W4.setCell ⟨gO, 0, none⟩ (.int .i64 T.facts)).setCell ⟨gO, 1, none⟩ (.slice AI nI eI)).setCell ⟨gO, 2, none⟩ (.slice AG nG eG)).setCell ⟨gO, 3, none⟩ (.slice none 0 0)).heap.size = W4.heap.size := by simp
          obtain ⟨W9, hW9⟩ : ∃ W9, W9 = (((W4.setCell ⟨gO, 0, none⟩ (.int .i64 T.facts)).setCell ⟨gO, 1, none⟩ (.slice AI nI eI)).setCell ⟨gO, 2, none⟩ (.slice AG nG eG)).setCell ⟨gO, 3, none⟩ (.slice none 0 0) := ⟨_, rfl⟩
          rw [← hW9] at ho9 ht9 hc9 hsz9 ⊢
          have hb9 := Hb.out.trans (hc9.below (B := W0.heap.size) (fun i e => by omega) Hb.out.size)
          have xi9 : RdM (fun b => b < W0.heap.size ∨ b = gO ∨ W9.heap.size ≤ b) W9 AI nI eI T.init := (RdM.own (M := fun b => b < W0.heap.size ∨ b = gO ∨ W9.heap.size ≤ b) HrI.out (fun r hr e => by
            have h1 := own_base HrI.out (by rw [own_blkA]; exact hr)
            have h2 := (own_block HrI.out (r := r) (by rw [own_blkA]; exact hr)).1
            have h3 := hneI r hr
            omega) (H.out.init.len) (rd_ints H.out.init)).chg (hc9.mono fun b e => .inr (.inl e))
          have xg9 : RdM (fun b => b < W0.heap.size ∨ b = gO ∨ W9.heap.size ≤ b) W9 AG nG eG T.goal := (RdM.own (M := fun b => b < W0.heap.size ∨ b = gO ∨ W9.heap.size ≤ b) HrG.out (fun r hr e => by
            have h1 := own_base HrG.out (by rw [own_blkA]; exact hr)
            have h2 := (own_block HrG.out (r := r) (by rw [own_blkA]; exact hr)).1
            have h3 := hneG r hr
            omega) (H.out.goal.len) (rd_ints H.out.goal)).chg (hc9.mono fun b e => .inr (.inl e))
          have gl9 : gO < W9.heap.size := by omega
          have ge9 : W0.heap.size ≤ gO := geO
          have t9 := ht9.cell4
          have Ho9 := hide ho9
          have Ht9 := hide ht9
          have Hb9 := hide hb9
          have Xi9 := hide xi9
          have Xg9 := hide xg9
          clear ho9 ht9 hc9 hb9 xi9 xg9 hW9 hsz9
          refine hK.out _ _ ?_ (fun hHeld2 => ?_)
          · (try dsimp only); exact ⟨t9.1, t9.2.1, t9.2.2.1⟩
          clear hK K hHeld
          try simp only [Act.put, List.setIfInBounds_toArray, List.set_cons_zero, List.set_cons_succ]
          have hHeld := hHeld2; clear hHeld2
          clear t9
          refine wpAnyH_done (by kernel_rfl) ?_ _
          go_wp2_with fail
          go_meet
          exact ⟨gO, AI, eI, AG, eG, rfl, Ho9.out, Ht9.out, Hb9.out, ge9, gl9, Xi9.out, Xg9.out⟩
    · go_simp
      have hb := (Below.refl W1.heap.size W1).alloc (Nat.le_refl _) (.cells #[.int .i64 0, .slice none 0 0, .slice none 0 0, .slice none 0 0] 25)
      have hn := Blk.new W1 25 [.int .i64 0, .slice none 0 0, .slice none 0 0, .slice none 0 0]
      have geO := Hb.out.size
      obtain ⟨W2, hW2⟩ : ∃ W9, W9 = W1.alloc (.cells #[.int .i64 0, .slice none 0 0, .slice none 0 0, .slice none 0 0] 25) := ⟨_, rfl⟩
      rw [← hW2] at hb hn ⊢
      clear hW2
      replace HT := hide (HT.out.keep hb)
      replace Hb := hide (Hb.out.trans (hb.mono Hb.out.size))
      clear hb
      generalize W1.heap.size = gO at hn geO  ⊢
      have HO := hide hn
      have hTO : gT < gO := by omega
      clear hn
      obtain ⟨c0, c1, c2, c3⟩ := HT.out.cell4
      refine hK.out _ _ ?_ (fun hHeld2 => ?_)
      · (try dsimp only); exact ⟨c0, c1, c2⟩
      clear hK K hHeld
      try simp only [Act.put, List.setIfInBounds_toArray, List.set_cons_zero, List.set_cons_succ]
      have hHeld := hHeld2; clear hHeld2
      clear c0 c1 c2 c3
      refine wpAnyH_ready (rs := [4]) (by kernel_rfl) (by simp) ?_
      refine AllReadyH.cons rfl (fun K hK => ?_) AllReadyH.nil
      · go_simp
        with_reducible refine (CloneI_ct I nI cI T.init W2 (H.out.init.keep (Hb0.out.trans (Hb.out.mono Hb0.out.size))) (by omega)).mono ?_
        rintro e W3 ⟨hb, AI, eI, rfl, hown⟩
        have hneI : ∀ r, blkA AI = some r → r ≠ gO := fun r hr => by have h1 := own_base hown (by rw [own_blkA]; exact hr); have h2 := HO.out.lt; omega
        replace HO := hide (HO.out.keep hb)
        have HrI := hide (own_low hown Hb.out.size)
        replace HT := hide (HT.out.keep hb)
        replace Hb := hide (Hb.out.trans (hb.mono Hb.out.size))
        clear hb hown
        obtain ⟨c0, c1, c2, c3⟩ := HT.out.cell4
        refine hK.out _ _ ?_ (fun hHeld2 => ?_)
        · (try dsimp only); exact ⟨c0, c1, c2⟩
        clear hK K hHeld
        try simp only [Act.put, List.setIfInBounds_toArray, List.set_cons_zero, List.set_cons_succ]
        have hHeld := hHeld2; clear hHeld2
        clear c0 c1 c2 c3
        refine wpAnyH_ready (rs := [7]) (by kernel_rfl) (by simp) ?_
        refine AllReadyH.cons rfl (fun K hK => ?_) AllReadyH.nil
        · go_simp
          with_reducible refine (CloneI_ct G nG cG T.goal W3 (H.out.goal.keep (Hb0.out.trans (Hb.out.mono Hb0.out.size))) (by omega)).mono ?_
          rintro e W4 ⟨hb, AG, eG, rfl, hown⟩
          have hneG : ∀ r, blkA AG = some r → r ≠ gO := fun r hr => by have h1 := own_base hown (by rw [own_blkA]; exact hr); have h2 := HO.out.lt; omega
          replace HO := hide (HO.out.keep hb)
          have HrG := hide (own_low hown Hb.out.size)
          replace HrI := hide (own_keep HrI.out hb)
          replace HT := hide (HT.out.keep hb)
          replace Hb := hide (Hb.out.trans (hb.mono Hb.out.size))
          clear hb hown
          obtain ⟨c0, c1, c2, c3⟩ := HT.out.cell4
          refine hK.out _ _ ?_ (fun hHeld2 => ?_)
          · (try dsimp only); exact ⟨c0, c1, c2⟩
          clear hK K hHeld
          try simp only [Act.put, List.setIfInBounds_toArray, List.set_cons_zero, List.set_cons_succ]
          have hHeld := hHeld2; clear hHeld2
          clear c0 c1 c2 c3
          refine takeM (i := 8) (v := ?_) (some 14) rfl rfl (by kernel_rfl) (by kernel_rfl) (by kernel_rfl) (fun _ _ _ h => h) (Or.inl ⟨by rfl, ?_⟩) (by assumption) ?_
          rotate_left
          · intro w hSw; (try dsimp only at hSw); obtain ⟨s1, s2, s3⟩ := hSw; first | (go_simp; done) | (go_simp; with_reducible rfl)
          try simp only [Act.put, List.setIfInBounds_toArray, List.set_cons_zero, List.set_cons_succ]
          refine wpAnyH_ready (rs := [10]) (by kernel_rfl) (by simp) ?_
          refine AllReadyH.cons rfl (fun K hK => ?_) AllReadyH.nil
          have q0 := HO.out.cell 0
          have q1 := HO.out.cell 1
          have q2 := HO.out.cell 2
          have q3 := HO.out.cell 3
          have ql := HO.out.lt
          have qf0 := HO.out.frozen 0
          have qf1 := HO.out.frozen 1
          have qf2 := HO.out.frozen 2
          have qf3 := HO.out.frozen 3
          simp only [List.getElem?_cons_zero, List.getElem?_cons_succ] at q0 q1 q2 q3
          go_simp
          have ho9 := (((HO.out.set 0 (.int .i64 T.facts)).set 1 (.slice AI nI eI)).set 2 (.slice AG nG eG)).set 3 (.slice none 0 0)
          simp only [List.set_cons_zero, List.set_cons_succ] at ho9
          have ht9 := (((HT.out.far (p := ⟨gO, 0, none⟩) (by show gT ≠ gO; omega) (.int .i64 T.facts)).far (p := ⟨gO, 1, none⟩) (by show gT ≠ gO; omega) (.slice AI nI eI)).far (p := ⟨gO, 2, none⟩) (by show gT ≠ gO; omega) (.slice AG nG eG)).far (p := ⟨gO, 3, none⟩) (by show gT ≠ gO; omega) (.slice none 0 0)
          have hc9 : Chg (fun b => b = gO) W4 ((((W4.setCell ⟨gO, 0, none⟩ (.int .i64 T.facts)).setCell ⟨gO, 1, none⟩ (.slice AI nI eI)).setCell ⟨gO, 2, none⟩ (.slice AG nG eG)).setCell ⟨gO, 3, none⟩ (.slice none 0 0)) :=
            (((Chg.set _ gO 0 _).trans (Chg.set _ gO 1 _)).trans (Chg.set _ gO 2 _)).trans (Chg.set _ gO 3 _)
          have hsz9 : ((((W4.setCell ⟨gO, 0, none⟩ (.int .i64 T.facts)).setCell ⟨gO, 1, none⟩ (.slice AI nI eI)).setCell ⟨gO, 2, none⟩ (.slice AG nG eG)).setCell ⟨gO, 3, none⟩ (.slice none 0 0)).heap.size = W4.heap.size := by simp
          obtain ⟨W9, hW9⟩ : ∃ W9, W9 = (((W4.setCell ⟨gO, 0, none⟩ (.int .i64 T.facts)).setCell ⟨gO, 1, none⟩ (.slice AI nI eI)).setCell ⟨gO, 2, none⟩ (.slice AG nG eG)).setCell ⟨gO, 3, none⟩ (.slice none 0 0) := ⟨_, rfl⟩
          rw [← hW9] at ho9 ht9 hc9 hsz9 ⊢
          have hb9 := Hb.out.trans (hc9.below (B := W0.heap.size) (fun i e => by omega) Hb.out.size)
          have xi9 : RdM (fun b => b < W0.heap.size ∨ b = gO ∨ W9.heap.size ≤ b) W9 AI nI eI T.init := (RdM.own (M := fun b => b < W0.heap.size ∨ b = gO ∨ W9.heap.size ≤ b) HrI.out (fun r hr e => by
            have h1 := own_base HrI.out (by rw [own_blkA]; exact hr)
            have h2 := (own_block HrI.out (r := r) (by rw [own_blkA]; exact hr)).1
            have h3 := hneI r hr
            omega) (H.out.init.len) (rd_ints H.out.init)).chg (hc9.mono fun b e => .inr (.inl e))
          have xg9 : RdM (fun b => b < W0.heap.size ∨ b = gO ∨ W9.heap.size ≤ b) W9 AG nG eG T.goal := (RdM.own (M := fun b => b < W0.heap.size ∨ b = gO ∨ W9.heap.size ≤ b) HrG.out (fun r hr e => by
            have h1 := own_base HrG.out (by rw [own_blkA]; exact hr)
            have h2 := (own_block HrG.out (r := r) (by rw [own_blkA]; exact hr)).1
            have h3 := hneG r hr
            omega) (H.out.goal.len) (rd_ints H.out.goal)).chg (hc9.mono fun b e => .inr (.inl e))
          have gl9 : gO < W9.heap.size := by omega
          have ge9 : W0.heap.size ≤ gO := geO
          have t9 := ht9.cell4
          have Ho9 := hide ho9
          have Ht9 := hide ht9
          have Hb9 := hide hb9
          have Xi9 := hide xi9
          have Xg9 := hide xg9
          clear ho9 ht9 hc9 hb9 xi9 xg9 hW9 hsz9
          refine hK.out _ _ ?_ (fun hHeld2 => ?_)
          · (try dsimp only); exact ⟨t9.1, t9.2.1, t9.2.2.1⟩
          clear hK K hHeld
          try simp only [Act.put, List.setIfInBounds_toArray, List.set_cons_zero, List.set_cons_succ]
          have hHeld := hHeld2; clear hHeld2
          clear t9
          refine wpAnyH_done (by kernel_rfl) ?_ _
          go_wp2_with fail
          go_meet
          exact ⟨gO, AI, eI, AG, eG, rfl, Ho9.out, Ht9.out, Hb9.out, ge9, gl9, Xi9.out, Xg9.out⟩
  case rest =>
    obtain ⟨gO, AI, eI, AG, eG, rfl, hO, hT, hb, hge, hgl, xi, xg⟩ := hcut
    have hR := HR.out.keep hb
    have hbw := Hb0.out.trans (hb.mono Hb0.out.size)
    clear HT HR
    obtain ⟨H1, hH1⟩ : ∃ H1, H1 = wc.heap.size := ⟨_, rfl⟩
    rw [← hH1] at hgl xi xg
    have hs0 : CpS w wc T [.int .i64 T.facts, .slice I nI cI, .slice G nG cG, .slice Oo nO cO] ⟨gT, gO, W0.heap.size, H1, AI, nI, eI, AG, nG, eG⟩ 0 none 0 [] := ⟨hT, hR, hO, hbw, (OwnE.nil _ _ _ _ _), by show H1 ≤ wc.heap.size; omega, xi, xg, HgT.out, hgs, hge, hgl⟩
    have HS := hide hs0
    clear hH1 hs0 hT hR hO hbw xi xg hb
    obtain ⟨c0, c1, c2, c3⟩ := HS.out.par.cell4
    simp only at c0 c1 c2 c3
    go_wp2_with fail
    go_loopw [18] (fun i wr => ∃ (k : Nat) (O : Option Addr) (oc : Nat) (vs : List Value), k ≤ nO ∧ i = .int .i64 k ∧ CpS w wr T [.int .i64 T.facts, .slice I nI cI, .slice G nG cG, .slice Oo nO cO] ⟨gT, gO, W0.heap.size, H1, AI, nI, eI, AG, nG, eG⟩ k O oc vs) (fun i _ => nO - (intOf i).toNat)
    case atStart => exact ⟨0, none, 0, [], by omega, rfl, HS.out⟩
    case round =>
      clear HS c0 c1 c2 c3
      obtain ⟨k, O, oc, vs, hk, rfl, hS⟩ := hrel
      have HS := hide hS
      have hOsz : ∀ r, blkA O = some r → r < wr.heap.size := fun r hr => (hS.blk hr).2
      obtain ⟨c0, c1, c2, c3⟩ := hS.par.cell4
      simp only at c0 c1 c2 c3
      by_cases hlt : k < nO
      · obtain ⟨b, off, o, A1, n1, d1, A2, n2, d2, A3, n3, d3, rfl, hoq, g0, g1, g2, g3, r1, r2, r3, r4⟩ := H.out.ops.op hlt
        have hb4 := HbO.out o (List.mem_of_getElem? hoq)
        obtain ⟨hb5, hb6, hb7⟩ := hb4
        rw [r1.len] at hb5
        rw [r2.len] at hb6
        rw [r3.len] at hb7
        replace g0 := (hS.low.cell (p := ⟨b, off + k * 4, none⟩) (World.block_lt_of_cell? w _ g0)).trans g0
        replace g1 := (hS.low.cell (p := ⟨b, off + k * 4 + 1, none⟩) (World.block_lt_of_cell? w _ g1)).trans g1
        replace g2 := (hS.low.cell (p := ⟨b, off + k * 4 + 2, none⟩) (World.block_lt_of_cell? w _ g2)).trans g2
        replace g3 := (hS.low.cell (p := ⟨b, off + k * 4 + 3, none⟩) (World.block_lt_of_cell? w _ g3)).trans g3
        have hszr := hS.size
        have hlowr := hS.low.size
        simp only at hszr
        have Hoq := hide hoq
        have L1 := hide r1.len
        have L2 := hide r2.len
        have L3 := hide r3.len
        have J1 := hide (rd_ints r1)
        have J2 := hide (rd_ints r2)
        have J3 := hide (rd_ints r3)
        have Jc := hide r4
        clear hS hoq r4
        go_upto_region 5 with (fail)
        have hY := Blk.new wr 72 [.slice A1 n1 d1, .slice A2 n2 d2, .slice A3 n3 d3, .int .i64 o.cost]
        have hb := (Below.refl wr.heap.size wr).alloc (Nat.le_refl _) (.cells #[.slice A1 n1 d1, .slice A2 n2 d2, .slice A3 n3 d3, .int .i64 o.cost] 72)
        obtain ⟨w4, hw4⟩ : ∃ w4, w4 = wr.alloc (.cells #[.slice A1 n1 d1, .slice A2 n2 d2, .slice A3 n3 d3, .int .i64 o.cost] 72) := ⟨_, rfl⟩
        rw [← hw4] at hY hb ⊢
        replace HS := hide (HS.out.keep hb)
        have hw0 := HS.out.low
        have R1 := hide (r1.keep hw0)
        have R2 := hide (r2.keep hw0)
        have R3 := hide (r3.keep hw0)
        have hH4 : H1 ≤ w4.heap.size := by have := hb.size; omega
        have hOlt : ∀ r, blkA O = some r → r < w4.heap.size := fun r hr => by have := hOsz r hr; have := hb.size; omega
        have hOY : ∀ r, blkA O = some r → r < wr.heap.size := hOsz
        have hgY : H1 ≤ wr.heap.size := hszr
        clear hw4 hb r1 r2 r3 g0 g1 g2 g3 c0 c1 c2 c3 hOsz hszr hw0 hlowr
        generalize wr.heap.size = gY at hY hOY hgY ⊢
        have HY := hide hY
        clear hY
        obtain ⟨z0, z1, z2, z3⟩ := HY.out.cell4
        refine wp_region_held_drew (S := (fun w' => w'.cell? ⟨gY, 0, none⟩ = some (.slice A1 n1 d1) ∧ w'.cell? ⟨gY, 1, none⟩ = some (.slice A2 n2 d2) ∧ w'.cell? ⟨gY, 2, none⟩ = some (.slice A3 n3 d3) ∧ w'.cell? ⟨gY, 3, none⟩ = some (.int .i64 o.cost))) (by kernel_rfl) ?_ (fun hHeld => ?_)
        · (try dsimp only); exact ⟨z0, z1, z2, z3⟩
        refine takeM (i := 0) (v := ?_) (some 22) rfl rfl (by kernel_rfl) (by kernel_rfl) (by kernel_rfl) (fun _ _ _ h => h) (Or.inl ⟨by rfl, ?_⟩) (by assumption) ?_
        rotate_left
        · intro w hSw; (try dsimp only at hSw); obtain ⟨s1, s2, s3, s4⟩ := hSw; first | (go_simp; done) | (go_simp; with_reducible rfl)
        try simp only [Act.put, List.setIfInBounds_toArray, List.set_cons_zero, List.set_cons_succ]
        refine takeM (i := 2) (v := ?_) (some 24) rfl rfl (by kernel_rfl) (by kernel_rfl) (by kernel_rfl) (fun _ _ _ h => h) (Or.inl ⟨by rfl, ?_⟩) (by assumption) ?_
        rotate_left
        · intro w hSw; (try dsimp only at hSw); obtain ⟨s1, s2, s3, s4⟩ := hSw; first | (go_simp; done) | (go_simp; with_reducible rfl)
        try simp only [Act.put, List.setIfInBounds_toArray, List.set_cons_zero, List.set_cons_succ]
        refine takeM (i := 3) (v := ?_) (some 25) rfl rfl (by kernel_rfl) (by kernel_rfl) (by kernel_rfl) (fun _ _ _ h => h) (Or.inl ⟨by rfl, ?_⟩) (by assumption) ?_
        rotate_left
        · intro w hSw; (try dsimp only at hSw); obtain ⟨s1, s2, s3, s4⟩ := hSw; first | (go_simp; done) | (go_simp; with_reducible rfl)
        try simp only [Act.put, List.setIfInBounds_toArray, List.set_cons_zero, List.set_cons_succ]
        refine takeM (i := 5) (v := ?_) (some 27) rfl rfl (by kernel_rfl) (by kernel_rfl) (by kernel_rfl) (fun _ _ _ h => h) (Or.inl ⟨by rfl, ?_⟩) (by assumption) ?_
        rotate_left
        · intro w hSw; (try dsimp only at hSw); obtain ⟨s1, s2, s3, s4⟩ := hSw; first | (go_simp; done) | (go_simp; with_reducible rfl)
        try simp only [Act.put, List.setIfInBounds_toArray, List.set_cons_zero, List.set_cons_succ]
        refine takeM (i := 6) (v := ?_) (some 28) rfl rfl (by kernel_rfl) (by kernel_rfl) (by kernel_rfl) (fun _ _ _ h => h) (Or.inl ⟨by rfl, ?_⟩) (by assumption) ?_
        rotate_left
        · intro w hSw; (try dsimp only at hSw); obtain ⟨s1, s2, s3, s4⟩ := hSw; first | (go_simp; done) | (go_simp; with_reducible rfl)
        try simp only [Act.put, List.setIfInBounds_toArray, List.set_cons_zero, List.set_cons_succ]
        refine takeM (i := 8) (v := ?_) (some 30) rfl rfl (by kernel_rfl) (by kernel_rfl) (by kernel_rfl) (fun _ _ _ h => h) (Or.inl ⟨by rfl, ?_⟩) (by assumption) ?_
        rotate_left
        · intro w hSw; (try dsimp only at hSw); obtain ⟨s1, s2, s3, s4⟩ := hSw; first | (go_simp; done) | (go_simp; with_reducible rfl)
        try simp only [Act.put, List.setIfInBounds_toArray, List.set_cons_zero, List.set_cons_succ]
        refine takeM (i := 9) (v := ?_) (some 31) rfl rfl (by kernel_rfl) (by kernel_rfl) (by kernel_rfl) (fun _ _ _ h => h) (Or.inl ⟨by rfl, ?_⟩) (by assumption) ?_
        rotate_left
        · intro w hSw; (try dsimp only at hSw); obtain ⟨s1, s2, s3, s4⟩ := hSw; first | (go_simp; done) | (go_simp; with_reducible rfl)
        try simp only [Act.put, List.setIfInBounds_toArray, List.set_cons_zero, List.set_cons_succ]
        refine takeM (i := 11) (v := ?_) (some 33) rfl rfl (by kernel_rfl) (by kernel_rfl) (by kernel_rfl) (fun _ _ _ h => h) (Or.inl ⟨by rfl, ?_⟩) (by assumption) ?_
        rotate_left
        · intro w hSw; (try dsimp only at hSw); obtain ⟨s1, s2, s3, s4⟩ := hSw; first | (go_simp; done) | (go_simp; with_reducible rfl)
        try simp only [Act.put, List.setIfInBounds_toArray, List.set_cons_zero, List.set_cons_succ]
        refine takeM (i := 12) (v := ?_) (some 34) rfl rfl (by kernel_rfl) (by kernel_rfl) (by kernel_rfl) (fun _ _ _ h => h) (Or.inl ⟨by rfl, ?_⟩) (by assumption) ?_
        rotate_left
        · intro w hSw; (try dsimp only at hSw); obtain ⟨s1, s2, s3, s4⟩ := hSw; first | (go_simp; done) | (go_simp; with_reducible rfl)
        try simp only [Act.put, List.setIfInBounds_toArray, List.set_cons_zero, List.set_cons_succ]
        clear z0 z1 z2 z3
        replace HY := hide (HY.out.qt (Qt.refl w4).drew)
        replace HS := hide (HS.out.keep ((Qt.refl w4).drew.below _))
        have Hb := hide ((Below.refl w4.heap.size w4).drew)
        obtain ⟨W1, hW1⟩ : ∃ W1, W1 = w4.drew := ⟨_, rfl⟩
        rw [← hW1] at HY HS Hb hHeld ⊢
        clear hW1
        refine wpAnyH_ready (rs := [1, 4]) (by kernel_rfl) (by simp) ?_
        refine AllReadyH.cons rfl (fun K hK => ?_) (AllReadyH.cons rfl (fun K hK => ?_) AllReadyH.nil)
        · skip
          have o3 := HS.out.out.cell4.2.2.2
          obtain ⟨z0, z1, z2, z3⟩ := HY.out.cell4
          go_simp
          refine hK.out _ _ ?_ (fun hHeld2 => ?_)
          · (try dsimp only); exact ⟨z0, z1, z2, z3⟩
          clear hK K hHeld
          try simp only [Act.put, List.setIfInBounds_toArray, List.set_cons_zero, List.set_cons_succ]
          have hHeld := hHeld2; clear hHeld2
          clear z0 z1 z2 z3 o3
          refine wpAnyH_ready (rs := [4]) (by kernel_rfl) (by simp) ?_
          refine AllReadyH.cons rfl (fun K hK => ?_) AllReadyH.nil
          · skip
            go_simp
            with_reducible refine (CloneI_ct A1 n1 d1 o.pre W1 (R1.out.keep Hb.out) (by omega)).mono ?_
            rintro e W2 ⟨hb, D1, e1, rfl, hown⟩
            have C1 := hide (own_low hown Hb.out.size)
            replace HS := hide (HS.out.keep hb)
            replace HY := hide (HY.out.keep hb)
            replace Hb := hide (Hb.out.trans (hb.mono Hb.out.size))
            clear hb hown
            obtain ⟨z0, z1, z2, z3⟩ := HY.out.cell4
            refine hK.out _ _ ?_ (fun hHeld2 => ?_)
            · (try dsimp only); exact ⟨z0, z1, z2, z3⟩
            clear hK K hHeld
            try simp only [Act.put, List.setIfInBounds_toArray, List.set_cons_zero, List.set_cons_succ]
            have hHeld := hHeld2; clear hHeld2
            clear z0 z1 z2 z3
            refine wpAnyH_ready (rs := [7]) (by kernel_rfl) (by simp) ?_
            refine AllReadyH.cons rfl (fun K hK => ?_) AllReadyH.nil
            · skip
              go_simp
              with_reducible refine (CloneI_ct A2 n2 d2 o.add W2 (R2.out.keep Hb.out) (by omega)).mono ?_
              rintro e W3 ⟨hb, D2, e2, rfl, hown⟩
              have C2 := hide (own_low hown Hb.out.size)
              replace HS := hide (HS.out.keep hb)
              replace HY := hide (HY.out.keep hb)
              replace C1 := hide (own_keep C1.out hb)
              replace Hb := hide (Hb.out.trans (hb.mono Hb.out.size))
              clear hb hown
              obtain ⟨z0, z1, z2, z3⟩ := HY.out.cell4
              refine hK.out _ _ ?_ (fun hHeld2 => ?_)
              · (try dsimp only); exact ⟨z0, z1, z2, z3⟩
              clear hK K hHeld
              try simp only [Act.put, List.setIfInBounds_toArray, List.set_cons_zero, List.set_cons_succ]
              have hHeld := hHeld2; clear hHeld2
              clear z0 z1 z2 z3
              refine wpAnyH_ready (rs := [10]) (by kernel_rfl) (by simp) ?_
              refine AllReadyH.cons rfl (fun K hK => ?_) AllReadyH.nil
              · skip
                go_simp
                with_reducible refine (CloneI_ct A3 n3 d3 o.del W3 (R3.out.keep Hb.out) (by omega)).mono ?_
                rintro e W4 ⟨hb, D3, e3, rfl, hown⟩
                have C3 := hide (own_low hown Hb.out.size)
                replace HS := hide (HS.out.keep hb)
                replace HY := hide (HY.out.keep hb)
                replace C1 := hide (own_keep C1.out hb)
                replace C2 := hide (own_keep C2.out hb)
                replace Hb := hide (Hb.out.trans (hb.mono Hb.out.size))
                clear hb hown
                obtain ⟨z0, z1, z2, z3⟩ := HY.out.cell4
                refine hK.out _ _ ?_ (fun hHeld2 => ?_)
                · (try dsimp only); exact ⟨z0, z1, z2, z3⟩
                clear hK K hHeld
                try simp only [Act.put, List.setIfInBounds_toArray, List.set_cons_zero, List.set_cons_succ]
                have hHeld := hHeld2; clear hHeld2
                clear z0 z1 z2 z3
                refine takeM (i := 13) (v := ?_) (some 35) rfl rfl (by kernel_rfl) (by kernel_rfl) (by kernel_rfl) (fun _ _ _ h => h) (Or.inl ⟨by rfl, ?_⟩) (by assumption) ?_
                rotate_left
                · intro w hSw; (try dsimp only at hSw); obtain ⟨s1, s2, s3, s4⟩ := hSw; first | (go_simp; done) | (go_simp; with_reducible rfl)
                try simp only [Act.put, List.setIfInBounds_toArray, List.set_cons_zero, List.set_cons_succ]
                refine wpAnyH_ready (rs := [14]) (by kernel_rfl) (by simp) ?_
                refine AllReadyH.cons rfl (fun K hK => ?_) AllReadyH.nil
                · skip
                  go_simp
                  obtain ⟨z0, z1, z2, z3⟩ := (HY.out.alloc (.cells #[.slice D1 n1 e1, .slice D2 n2 e2, .slice D3 n3 e3, .int .i64 o.cost] 72)).cell4
                  refine hK.out _ _ ?_ (fun hHeld2 => ?_)
                  · (try dsimp only); exact ⟨z0, z1, z2, z3⟩
                  clear hK K hHeld
                  try simp only [Act.put, List.setIfInBounds_toArray, List.set_cons_zero, List.set_cons_succ]
                  have hHeld := hHeld2; clear hHeld2
                  clear z0 z1 z2 z3
                  refine wpAnyH_ready (rs := [15]) (by kernel_rfl) (by simp) ?_
                  refine AllReadyH.cons rfl (fun K hK => ?_) AllReadyH.nil
                  have hfirm := HS.out.firm (b4 := w4.heap.size) hH4 hOlt C1.out C2.out C3.out L1.out L2.out L3.out J1.out J2.out J3.out Jc.out
                  refine step_pushE rfl _ _ 23 rfl H1 72 i1 _ 80 Tryz.underlying23 hi1 hy0 hy1 hy2 rfl (by decide) (A := O) (n := k) (c := oc) (by first | rfl | (go_simp; done)) HS.out.own (fun r hr => .inl hr) [.slice D1 n1 e1, .slice D2 n2 e2, .slice D3 n3 e3, .int .i64 o.cost] o (by intro u hu; simp at hu; rcases hu with hu | hu | hu | hu <;> subst hu <;> rfl) (by first | rfl | (go_simp; done)) hfirm (by omega) (by omega) HS.out.size ?_
                  intro O6 oc6 w6 hown6 hch6 hat6
                  have hs9 := HS.out.push Hoq.out hown6 hch6 hat6
                  have hnY : ¬ blkA O = some gY := fun e => by have := hOY gY e; omega
                  have hy6 := hch6.blk HY.out hnY
                  have hy9 := hy6.far (p := ⟨gO, 3, none⟩) (by show gY ≠ gO; omega) (.slice O6 (k + 1) oc6)
                  have hnO : ¬ blkA O = some gO := fun e => by
                    have h9 : H1 ≤ gO := (HS.out.blk e).1
                    omega
                  have hq6 := hch6.blk HS.out.out hnO
                  have q3 := hq6.cell 3
                  have ql := hq6.lt
                  have qf := hq6.frozen 3
                  simp only [List.getElem?_cons_zero, List.getElem?_cons_succ] at q3
                  obtain ⟨z0, z1, z2, z3⟩ := hy6.cell4
                  obtain ⟨y0, y1, y2, y3⟩ := hy9.cell4
                  have Hs9 := hide hs9
                  clear hown6 hch6 hat6 hs9 hy6 hy9 hq6 hfirm
                  refine hK.out _ _ ?_ (fun hHeld2 => ?_)
                  · (try dsimp only); exact ⟨z0, z1, z2, z3⟩
                  clear hK K hHeld
                  try simp only [Act.put, List.setIfInBounds_toArray, List.set_cons_zero, List.set_cons_succ]
                  have hHeld := hHeld2; clear hHeld2
                  clear z0 z1 z2 z3
                  refine takeM (i := 16) (v := ?_) (some 38) rfl rfl (by kernel_rfl) (by kernel_rfl) (by kernel_rfl) (fun _ _ _ h => h) (Or.inl ⟨by rfl, ?_⟩) (by assumption) ?_
                  rotate_left
                  · intro w hSw; (try dsimp only at hSw); obtain ⟨s1, s2, s3, s4⟩ := hSw; first | (go_simp; done) | (go_simp; with_reducible rfl)
                  try simp only [Act.put, List.setIfInBounds_toArray, List.set_cons_zero, List.set_cons_succ]
                  refine wpAnyH_ready (rs := [17]) (by kernel_rfl) (by simp) ?_
                  refine AllReadyH.cons rfl (fun K hK => ?_) AllReadyH.nil
                  go_simp
                  refine hK.out _ _ ?_ (fun hHeld2 => ?_)
                  · (try dsimp only); exact ⟨y0, y1, y2, y3⟩
                  clear hK K hHeld
                  try simp only [Act.put, List.setIfInBounds_toArray, List.set_cons_zero, List.set_cons_succ]
                  have hHeld := hHeld2; clear hHeld2
                  refine wpAnyH_done (by kernel_rfl) ?_ _
                  go_wp2_with fail
                  go_roundw
                  case rel => exact ⟨k + 1, O6, oc6, _, by omega, by go_num, Hs9.out⟩
                  case measure => simp [intOf]; omega
        · skip
          go_simp
          with_reducible refine (CloneI_ct A1 n1 d1 o.pre W1 (R1.out.keep Hb.out) (by omega)).mono ?_
          rintro e W2 ⟨hb, D1, e1, rfl, hown⟩
          have C1 := hide (own_low hown Hb.out.size)
          replace HS := hide (HS.out.keep hb)
          replace HY := hide (HY.out.keep hb)
          replace Hb := hide (Hb.out.trans (hb.mono Hb.out.size))
          clear hb hown
          obtain ⟨z0, z1, z2, z3⟩ := HY.out.cell4
          refine hK.out _ _ ?_ (fun hHeld2 => ?_)
          · (try dsimp only); exact ⟨z0, z1, z2, z3⟩
          clear hK K hHeld
          try simp only [Act.put, List.setIfInBounds_toArray, List.set_cons_zero, List.set_cons_succ]
          have hHeld := hHeld2; clear hHeld2
          clear z0 z1 z2 z3
          refine wpAnyH_ready (rs := [1, 7]) (by kernel_rfl) (by simp) ?_
          refine AllReadyH.cons rfl (fun K hK => ?_) (AllReadyH.cons rfl (fun K hK => ?_) AllReadyH.nil)
          · skip
            have o3 := HS.out.out.cell4.2.2.2
            obtain ⟨z0, z1, z2, z3⟩ := HY.out.cell4
            go_simp
            refine hK.out _ _ ?_ (fun hHeld2 => ?_)
            · (try dsimp only); exact ⟨z0, z1, z2, z3⟩
            clear hK K hHeld
            try simp only [Act.put, List.setIfInBounds_toArray, List.set_cons_zero, List.set_cons_succ]
            have hHeld := hHeld2; clear hHeld2
            clear z0 z1 z2 z3 o3
            refine wpAnyH_ready (rs := [7]) (by kernel_rfl) (by simp) ?_
            refine AllReadyH.cons rfl (fun K hK => ?_) AllReadyH.nil
            · skip
              go_simp
              with_reducible refine (CloneI_ct A2 n2 d2 o.add W2 (R2.out.keep Hb.out) (by omega)).mono ?_
              rintro e W3 ⟨hb, D2, e2, rfl, hown⟩
              have C2 := hide (own_low hown Hb.out.size)
              replace HS := hide (HS.out.keep hb)
              replace HY := hide (HY.out.keep hb)
              replace C1 := hide (own_keep C1.out hb)
              replace Hb := hide (Hb.out.trans (hb.mono Hb.out.size))
              clear hb hown
              obtain ⟨z0, z1, z2, z3⟩ := HY.out.cell4
              refine hK.out _ _ ?_ (fun hHeld2 => ?_)
              · (try dsimp only); exact ⟨z0, z1, z2, z3⟩
              clear hK K hHeld
              try simp only [Act.put, List.setIfInBounds_toArray, List.set_cons_zero, List.set_cons_succ]
              have hHeld := hHeld2; clear hHeld2
              clear z0 z1 z2 z3
              refine wpAnyH_ready (rs := [10]) (by kernel_rfl) (by simp) ?_
              refine AllReadyH.cons rfl (fun K hK => ?_) AllReadyH.nil
              · skip
                go_simp
                with_reducible refine (CloneI_ct A3 n3 d3 o.del W3 (R3.out.keep Hb.out) (by omega)).mono ?_
                rintro e W4 ⟨hb, D3, e3, rfl, hown⟩
                have C3 := hide (own_low hown Hb.out.size)
                replace HS := hide (HS.out.keep hb)
                replace HY := hide (HY.out.keep hb)
                replace C1 := hide (own_keep C1.out hb)
                replace C2 := hide (own_keep C2.out hb)
                replace Hb := hide (Hb.out.trans (hb.mono Hb.out.size))
                clear hb hown
                obtain ⟨z0, z1, z2, z3⟩ := HY.out.cell4
                refine hK.out _ _ ?_ (fun hHeld2 => ?_)
                · (try dsimp only); exact ⟨z0, z1, z2, z3⟩
                clear hK K hHeld
                try simp only [Act.put, List.setIfInBounds_toArray, List.set_cons_zero, List.set_cons_succ]
                have hHeld := hHeld2; clear hHeld2
                clear z0 z1 z2 z3
                refine takeM (i := 13) (v := ?_) (some 35) rfl rfl (by kernel_rfl) (by kernel_rfl) (by kernel_rfl) (fun _ _ _ h => h) (Or.inl ⟨by rfl, ?_⟩) (by assumption) ?_
                rotate_left
                · intro w hSw; (try dsimp only at hSw); obtain ⟨s1, s2, s3, s4⟩ := hSw; first | (go_simp; done) | (go_simp; with_reducible rfl)
                try simp only [Act.put, List.setIfInBounds_toArray, List.set_cons_zero, List.set_cons_succ]
                refine wpAnyH_ready (rs := [14]) (by kernel_rfl) (by simp) ?_
                refine AllReadyH.cons rfl (fun K hK => ?_) AllReadyH.nil
                · skip
                  go_simp
                  obtain ⟨z0, z1, z2, z3⟩ := (HY.out.alloc (.cells #[.slice D1 n1 e1, .slice D2 n2 e2, .slice D3 n3 e3, .int .i64 o.cost] 72)).cell4
                  refine hK.out _ _ ?_ (fun hHeld2 => ?_)
                  · (try dsimp only); exact ⟨z0, z1, z2, z3⟩
                  clear hK K hHeld
                  try simp only [Act.put, List.setIfInBounds_toArray, List.set_cons_zero, List.set_cons_succ]
                  have hHeld := hHeld2; clear hHeld2
                  clear z0 z1 z2 z3
                  refine wpAnyH_ready (rs := [15]) (by kernel_rfl) (by simp) ?_
                  refine AllReadyH.cons rfl (fun K hK => ?_) AllReadyH.nil
                  have hfirm := HS.out.firm (b4 := w4.heap.size) hH4 hOlt C1.out C2.out C3.out L1.out L2.out L3.out J1.out J2.out J3.out Jc.out
                  refine step_pushE rfl _ _ 23 rfl H1 72 i1 _ 80 Tryz.underlying23 hi1 hy0 hy1 hy2 rfl (by decide) (A := O) (n := k) (c := oc) (by first | rfl | (go_simp; done)) HS.out.own (fun r hr => .inl hr) [.slice D1 n1 e1, .slice D2 n2 e2, .slice D3 n3 e3, .int .i64 o.cost] o (by intro u hu; simp at hu; rcases hu with hu | hu | hu | hu <;> subst hu <;> rfl) (by first | rfl | (go_simp; done)) hfirm (by omega) (by omega) HS.out.size ?_
                  intro O6 oc6 w6 hown6 hch6 hat6
                  have hs9 := HS.out.push Hoq.out hown6 hch6 hat6
                  have hnY : ¬ blkA O = some gY := fun e => by have := hOY gY e; omega
                  have hy6 := hch6.blk HY.out hnY
                  have hy9 := hy6.far (p := ⟨gO, 3, none⟩) (by show gY ≠ gO; omega) (.slice O6 (k + 1) oc6)
                  have hnO : ¬ blkA O = some gO := fun e => by
                    have h9 : H1 ≤ gO := (HS.out.blk e).1
                    omega
                  have hq6 := hch6.blk HS.out.out hnO
                  have q3 := hq6.cell 3
                  have ql := hq6.lt
                  have qf := hq6.frozen 3
                  simp only [List.getElem?_cons_zero, List.getElem?_cons_succ] at q3
                  obtain ⟨z0, z1, z2, z3⟩ := hy6.cell4
                  obtain ⟨y0, y1, y2, y3⟩ := hy9.cell4
                  have Hs9 := hide hs9
                  clear hown6 hch6 hat6 hs9 hy6 hy9 hq6 hfirm
                  refine hK.out _ _ ?_ (fun hHeld2 => ?_)
                  · (try dsimp only); exact ⟨z0, z1, z2, z3⟩
                  clear hK K hHeld
                  try simp only [Act.put, List.setIfInBounds_toArray, List.set_cons_zero, List.set_cons_succ]
                  have hHeld := hHeld2; clear hHeld2
                  clear z0 z1 z2 z3
                  refine takeM (i := 16) (v := ?_) (some 38) rfl rfl (by kernel_rfl) (by kernel_rfl) (by kernel_rfl) (fun _ _ _ h => h) (Or.inl ⟨by rfl, ?_⟩) (by assumption) ?_
                  rotate_left
                  · intro w hSw; (try dsimp only at hSw); obtain ⟨s1, s2, s3, s4⟩ := hSw; first | (go_simp; done) | (go_simp; with_reducible rfl)
                  try simp only [Act.put, List.setIfInBounds_toArray, List.set_cons_zero, List.set_cons_succ]
                  refine wpAnyH_ready (rs := [17]) (by kernel_rfl) (by simp) ?_
                  refine AllReadyH.cons rfl (fun K hK => ?_) AllReadyH.nil
                  go_simp
                  refine hK.out _ _ ?_ (fun hHeld2 => ?_)
                  · (try dsimp only); exact ⟨y0, y1, y2, y3⟩
                  clear hK K hHeld
                  try simp only [Act.put, List.setIfInBounds_toArray, List.set_cons_zero, List.set_cons_succ]
                  have hHeld := hHeld2; clear hHeld2
                  refine wpAnyH_done (by kernel_rfl) ?_ _
                  go_wp2_with fail
                  go_roundw
                  case rel => exact ⟨k + 1, O6, oc6, _, by omega, by go_num, Hs9.out⟩
                  case measure => simp [intOf]; omega
          · skip
            go_simp
            with_reducible refine (CloneI_ct A2 n2 d2 o.add W2 (R2.out.keep Hb.out) (by omega)).mono ?_
            rintro e W3 ⟨hb, D2, e2, rfl, hown⟩
            have C2 := hide (own_low hown Hb.out.size)
            replace HS := hide (HS.out.keep hb)
            replace HY := hide (HY.out.keep hb)
            replace C1 := hide (own_keep C1.out hb)
            replace Hb := hide (Hb.out.trans (hb.mono Hb.out.size))
            clear hb hown
            obtain ⟨z0, z1, z2, z3⟩ := HY.out.cell4
            refine hK.out _ _ ?_ (fun hHeld2 => ?_)
            · (try dsimp only); exact ⟨z0, z1, z2, z3⟩
            clear hK K hHeld
            try simp only [Act.put, List.setIfInBounds_toArray, List.set_cons_zero, List.set_cons_succ]
            have hHeld := hHeld2; clear hHeld2
            clear z0 z1 z2 z3
            refine wpAnyH_ready (rs := [1, 10]) (by kernel_rfl) (by simp) ?_
            refine AllReadyH.cons rfl (fun K hK => ?_) (AllReadyH.cons rfl (fun K hK => ?_) AllReadyH.nil)
            · skip
              have o3 := HS.out.out.cell4.2.2.2
              obtain ⟨z0, z1, z2, z3⟩ := HY.out.cell4
              go_simp
              refine hK.out _ _ ?_ (fun hHeld2 => ?_)
              · (try dsimp only); exact ⟨z0, z1, z2, z3⟩
              clear hK K hHeld
              try simp only [Act.put, List.setIfInBounds_toArray, List.set_cons_zero, List.set_cons_succ]
              have hHeld := hHeld2; clear hHeld2
              clear z0 z1 z2 z3 o3
              refine wpAnyH_ready (rs := [10]) (by kernel_rfl) (by simp) ?_
              refine AllReadyH.cons rfl (fun K hK => ?_) AllReadyH.nil
              · skip
                go_simp
                with_reducible refine (CloneI_ct A3 n3 d3 o.del W3 (R3.out.keep Hb.out) (by omega)).mono ?_
                rintro e W4 ⟨hb, D3, e3, rfl, hown⟩
                have C3 := hide (own_low hown Hb.out.size)
                replace HS := hide (HS.out.keep hb)
                replace HY := hide (HY.out.keep hb)
                replace C1 := hide (own_keep C1.out hb)
                replace C2 := hide (own_keep C2.out hb)
                replace Hb := hide (Hb.out.trans (hb.mono Hb.out.size))
                clear hb hown
                obtain ⟨z0, z1, z2, z3⟩ := HY.out.cell4
                refine hK.out _ _ ?_ (fun hHeld2 => ?_)
                · (try dsimp only); exact ⟨z0, z1, z2, z3⟩
                clear hK K hHeld
                try simp only [Act.put, List.setIfInBounds_toArray, List.set_cons_zero, List.set_cons_succ]
                have hHeld := hHeld2; clear hHeld2
                clear z0 z1 z2 z3
                refine takeM (i := 13) (v := ?_) (some 35) rfl rfl (by kernel_rfl) (by kernel_rfl) (by kernel_rfl) (fun _ _ _ h => h) (Or.inl ⟨by rfl, ?_⟩) (by assumption) ?_
                rotate_left
                · intro w hSw; (try dsimp only at hSw); obtain ⟨s1, s2, s3, s4⟩ := hSw; first | (go_simp; done) | (go_simp; with_reducible rfl)
                try simp only [Act.put, List.setIfInBounds_toArray, List.set_cons_zero, List.set_cons_succ]
                refine wpAnyH_ready (rs := [14]) (by kernel_rfl) (by simp) ?_
                refine AllReadyH.cons rfl (fun K hK => ?_) AllReadyH.nil
                · skip
                  go_simp
                  obtain ⟨z0, z1, z2, z3⟩ := (HY.out.alloc (.cells #[.slice D1 n1 e1, .slice D2 n2 e2, .slice D3 n3 e3, .int .i64 o.cost] 72)).cell4
                  refine hK.out _ _ ?_ (fun hHeld2 => ?_)
                  · (try dsimp only); exact ⟨z0, z1, z2, z3⟩
                  clear hK K hHeld
                  try simp only [Act.put, List.setIfInBounds_toArray, List.set_cons_zero, List.set_cons_succ]
                  have hHeld := hHeld2; clear hHeld2
                  clear z0 z1 z2 z3
                  refine wpAnyH_ready (rs := [15]) (by kernel_rfl) (by simp) ?_
                  refine AllReadyH.cons rfl (fun K hK => ?_) AllReadyH.nil
                  have hfirm := HS.out.firm (b4 := w4.heap.size) hH4 hOlt C1.out C2.out C3.out L1.out L2.out L3.out J1.out J2.out J3.out Jc.out
                  refine step_pushE rfl _ _ 23 rfl H1 72 i1 _ 80 Tryz.underlying23 hi1 hy0 hy1 hy2 rfl (by decide) (A := O) (n := k) (c := oc) (by first | rfl | (go_simp; done)) HS.out.own (fun r hr => .inl hr) [.slice D1 n1 e1, .slice D2 n2 e2, .slice D3 n3 e3, .int .i64 o.cost] o (by intro u hu; simp at hu; rcases hu with hu | hu | hu | hu <;> subst hu <;> rfl) (by first | rfl | (go_simp; done)) hfirm (by omega) (by omega) HS.out.size ?_
                  intro O6 oc6 w6 hown6 hch6 hat6
                  have hs9 := HS.out.push Hoq.out hown6 hch6 hat6
                  have hnY : ¬ blkA O = some gY := fun e => by have := hOY gY e; omega
                  have hy6 := hch6.blk HY.out hnY
                  have hy9 := hy6.far (p := ⟨gO, 3, none⟩) (by show gY ≠ gO; omega) (.slice O6 (k + 1) oc6)
                  have hnO : ¬ blkA O = some gO := fun e => by
                    have h9 : H1 ≤ gO := (HS.out.blk e).1
                    omega
                  have hq6 := hch6.blk HS.out.out hnO
                  have q3 := hq6.cell 3
                  have ql := hq6.lt
                  have qf := hq6.frozen 3
                  simp only [List.getElem?_cons_zero, List.getElem?_cons_succ] at q3
                  obtain ⟨z0, z1, z2, z3⟩ := hy6.cell4
                  obtain ⟨y0, y1, y2, y3⟩ := hy9.cell4
                  have Hs9 := hide hs9
                  clear hown6 hch6 hat6 hs9 hy6 hy9 hq6 hfirm
                  refine hK.out _ _ ?_ (fun hHeld2 => ?_)
                  · (try dsimp only); exact ⟨z0, z1, z2, z3⟩
                  clear hK K hHeld
                  try simp only [Act.put, List.setIfInBounds_toArray, List.set_cons_zero, List.set_cons_succ]
                  have hHeld := hHeld2; clear hHeld2
                  clear z0 z1 z2 z3
                  refine takeM (i := 16) (v := ?_) (some 38) rfl rfl (by kernel_rfl) (by kernel_rfl) (by kernel_rfl) (fun _ _ _ h => h) (Or.inl ⟨by rfl, ?_⟩) (by assumption) ?_
                  rotate_left
                  · intro w hSw; (try dsimp only at hSw); obtain ⟨s1, s2, s3, s4⟩ := hSw; first | (go_simp; done) | (go_simp; with_reducible rfl)
                  try simp only [Act.put, List.setIfInBounds_toArray, List.set_cons_zero, List.set_cons_succ]
                  refine wpAnyH_ready (rs := [17]) (by kernel_rfl) (by simp) ?_
                  refine AllReadyH.cons rfl (fun K hK => ?_) AllReadyH.nil
                  go_simp
                  refine hK.out _ _ ?_ (fun hHeld2 => ?_)
                  · (try dsimp only); exact ⟨y0, y1, y2, y3⟩
                  clear hK K hHeld
                  try simp only [Act.put, List.setIfInBounds_toArray, List.set_cons_zero, List.set_cons_succ]
                  have hHeld := hHeld2; clear hHeld2
                  refine wpAnyH_done (by kernel_rfl) ?_ _
                  go_wp2_with fail
                  go_roundw
                  case rel => exact ⟨k + 1, O6, oc6, _, by omega, by go_num, Hs9.out⟩
                  case measure => simp [intOf]; omega
            · skip
              go_simp
              with_reducible refine (CloneI_ct A3 n3 d3 o.del W3 (R3.out.keep Hb.out) (by omega)).mono ?_
              rintro e W4 ⟨hb, D3, e3, rfl, hown⟩
              have C3 := hide (own_low hown Hb.out.size)
              replace HS := hide (HS.out.keep hb)
              replace HY := hide (HY.out.keep hb)
              replace C1 := hide (own_keep C1.out hb)
              replace C2 := hide (own_keep C2.out hb)
              replace Hb := hide (Hb.out.trans (hb.mono Hb.out.size))
              clear hb hown
              obtain ⟨z0, z1, z2, z3⟩ := HY.out.cell4
              refine hK.out _ _ ?_ (fun hHeld2 => ?_)
              · (try dsimp only); exact ⟨z0, z1, z2, z3⟩
              clear hK K hHeld
              try simp only [Act.put, List.setIfInBounds_toArray, List.set_cons_zero, List.set_cons_succ]
              have hHeld := hHeld2; clear hHeld2
              clear z0 z1 z2 z3
              refine takeM (i := 13) (v := ?_) (some 35) rfl rfl (by kernel_rfl) (by kernel_rfl) (by kernel_rfl) (fun _ _ _ h => h) (Or.inl ⟨by rfl, ?_⟩) (by assumption) ?_
              rotate_left
              · intro w hSw; (try dsimp only at hSw); obtain ⟨s1, s2, s3, s4⟩ := hSw; first | (go_simp; done) | (go_simp; with_reducible rfl)
              try simp only [Act.put, List.setIfInBounds_toArray, List.set_cons_zero, List.set_cons_succ]
              refine wpAnyH_ready (rs := [1, 14]) (by kernel_rfl) (by simp) ?_
              refine AllReadyH.cons rfl (fun K hK => ?_) (AllReadyH.cons rfl (fun K hK => ?_) AllReadyH.nil)
              · skip
                have o3 := HS.out.out.cell4.2.2.2
                obtain ⟨z0, z1, z2, z3⟩ := HY.out.cell4
                go_simp
                refine hK.out _ _ ?_ (fun hHeld2 => ?_)
                · (try dsimp only); exact ⟨z0, z1, z2, z3⟩
                clear hK K hHeld
                try simp only [Act.put, List.setIfInBounds_toArray, List.set_cons_zero, List.set_cons_succ]
                have hHeld := hHeld2; clear hHeld2
                clear z0 z1 z2 z3 o3
                refine wpAnyH_ready (rs := [14]) (by kernel_rfl) (by simp) ?_
                refine AllReadyH.cons rfl (fun K hK => ?_) AllReadyH.nil
                · skip
                  go_simp
                  obtain ⟨z0, z1, z2, z3⟩ := (HY.out.alloc (.cells #[.slice D1 n1 e1, .slice D2 n2 e2, .slice D3 n3 e3, .int .i64 o.cost] 72)).cell4
                  refine hK.out _ _ ?_ (fun hHeld2 => ?_)
                  · (try dsimp only); exact ⟨z0, z1, z2, z3⟩
                  clear hK K hHeld
                  try simp only [Act.put, List.setIfInBounds_toArray, List.set_cons_zero, List.set_cons_succ]
                  have hHeld := hHeld2; clear hHeld2
                  clear z0 z1 z2 z3
                  refine wpAnyH_ready (rs := [15]) (by kernel_rfl) (by simp) ?_
                  refine AllReadyH.cons rfl (fun K hK => ?_) AllReadyH.nil
                  have hfirm := HS.out.firm (b4 := w4.heap.size) hH4 hOlt C1.out C2.out C3.out L1.out L2.out L3.out J1.out J2.out J3.out Jc.out
                  refine step_pushE rfl _ _ 23 rfl H1 72 i1 _ 80 Tryz.underlying23 hi1 hy0 hy1 hy2 rfl (by decide) (A := O) (n := k) (c := oc) (by first | rfl | (go_simp; done)) HS.out.own (fun r hr => .inl hr) [.slice D1 n1 e1, .slice D2 n2 e2, .slice D3 n3 e3, .int .i64 o.cost] o (by intro u hu; simp at hu; rcases hu with hu | hu | hu | hu <;> subst hu <;> rfl) (by first | rfl | (go_simp; done)) hfirm (by omega) (by omega) HS.out.size ?_
                  intro O6 oc6 w6 hown6 hch6 hat6
                  have hs9 := HS.out.push Hoq.out hown6 hch6 hat6
                  have hnY : ¬ blkA O = some gY := fun e => by have := hOY gY e; omega
                  have hy6 := hch6.blk HY.out hnY
                  have hy9 := hy6.far (p := ⟨gO, 3, none⟩) (by show gY ≠ gO; omega) (.slice O6 (k + 1) oc6)
                  have hnO : ¬ blkA O = some gO := fun e => by
                    have h9 : H1 ≤ gO := (HS.out.blk e).1
                    omega
                  have hq6 := hch6.blk HS.out.out hnO
                  have q3 := hq6.cell 3
                  have ql := hq6.lt
                  have qf := hq6.frozen 3
                  simp only [List.getElem?_cons_zero, List.getElem?_cons_succ] at q3
                  obtain ⟨z0, z1, z2, z3⟩ := hy6.cell4
                  obtain ⟨y0, y1, y2, y3⟩ := hy9.cell4
                  have Hs9 := hide hs9
                  clear hown6 hch6 hat6 hs9 hy6 hy9 hq6 hfirm
                  refine hK.out _ _ ?_ (fun hHeld2 => ?_)
                  · (try dsimp only); exact ⟨z0, z1, z2, z3⟩
                  clear hK K hHeld
                  try simp only [Act.put, List.setIfInBounds_toArray, List.set_cons_zero, List.set_cons_succ]
                  have hHeld := hHeld2; clear hHeld2
                  clear z0 z1 z2 z3
                  refine takeM (i := 16) (v := ?_) (some 38) rfl rfl (by kernel_rfl) (by kernel_rfl) (by kernel_rfl) (fun _ _ _ h => h) (Or.inl ⟨by rfl, ?_⟩) (by assumption) ?_
                  rotate_left
                  · intro w hSw; (try dsimp only at hSw); obtain ⟨s1, s2, s3, s4⟩ := hSw; first | (go_simp; done) | (go_simp; with_reducible rfl)
                  try simp only [Act.put, List.setIfInBounds_toArray, List.set_cons_zero, List.set_cons_succ]
                  refine wpAnyH_ready (rs := [17]) (by kernel_rfl) (by simp) ?_
                  refine AllReadyH.cons rfl (fun K hK => ?_) AllReadyH.nil
                  go_simp
                  refine hK.out _ _ ?_ (fun hHeld2 => ?_)
                  · (try dsimp only); exact ⟨y0, y1, y2, y3⟩
                  clear hK K hHeld
                  try simp only [Act.put, List.setIfInBounds_toArray, List.set_cons_zero, List.set_cons_succ]
                  have hHeld := hHeld2; clear hHeld2
                  refine wpAnyH_done (by kernel_rfl) ?_ _
                  go_wp2_with fail
                  go_roundw
                  case rel => exact ⟨k + 1, O6, oc6, _, by omega, by go_num, Hs9.out⟩
                  case measure => simp [intOf]; omega
              · skip
                go_simp
                obtain ⟨z0, z1, z2, z3⟩ := (HY.out.alloc (.cells #[.slice D1 n1 e1, .slice D2 n2 e2, .slice D3 n3 e3, .int .i64 o.cost] 72)).cell4
                refine hK.out _ _ ?_ (fun hHeld2 => ?_)
                · (try dsimp only); exact ⟨z0, z1, z2, z3⟩
                clear hK K hHeld
                try simp only [Act.put, List.setIfInBounds_toArray, List.set_cons_zero, List.set_cons_succ]
                have hHeld := hHeld2; clear hHeld2
                clear z0 z1 z2 z3
                refine wpAnyH_ready (rs := [1]) (by kernel_rfl) (by simp) ?_
                refine AllReadyH.cons rfl (fun K hK => ?_) AllReadyH.nil
                · skip
                  have o3 := ((HS.out.out.alloc (.cells #[.slice D1 n1 e1, .slice D2 n2 e2, .slice D3 n3 e3, .int .i64 o.cost] 72)).cell4).2.2.2
                  obtain ⟨z0, z1, z2, z3⟩ := (HY.out.alloc (.cells #[.slice D1 n1 e1, .slice D2 n2 e2, .slice D3 n3 e3, .int .i64 o.cost] 72)).cell4
                  go_simp
                  refine hK.out _ _ ?_ (fun hHeld2 => ?_)
                  · (try dsimp only); exact ⟨z0, z1, z2, z3⟩
                  clear hK K hHeld
                  try simp only [Act.put, List.setIfInBounds_toArray, List.set_cons_zero, List.set_cons_succ]
                  have hHeld := hHeld2; clear hHeld2
                  clear z0 z1 z2 z3 o3
                  refine wpAnyH_ready (rs := [15]) (by kernel_rfl) (by simp) ?_
                  refine AllReadyH.cons rfl (fun K hK => ?_) AllReadyH.nil
                  have hfirm := HS.out.firm (b4 := w4.heap.size) hH4 hOlt C1.out C2.out C3.out L1.out L2.out L3.out J1.out J2.out J3.out Jc.out
                  refine step_pushE rfl _ _ 23 rfl H1 72 i1 _ 80 Tryz.underlying23 hi1 hy0 hy1 hy2 rfl (by decide) (A := O) (n := k) (c := oc) (by first | rfl | (go_simp; done)) HS.out.own (fun r hr => .inl hr) [.slice D1 n1 e1, .slice D2 n2 e2, .slice D3 n3 e3, .int .i64 o.cost] o (by intro u hu; simp at hu; rcases hu with hu | hu | hu | hu <;> subst hu <;> rfl) (by first | rfl | (go_simp; done)) hfirm (by omega) (by omega) HS.out.size ?_
                  intro O6 oc6 w6 hown6 hch6 hat6
                  have hs9 := HS.out.push Hoq.out hown6 hch6 hat6
                  have hnY : ¬ blkA O = some gY := fun e => by have := hOY gY e; omega
                  have hy6 := hch6.blk HY.out hnY
                  have hy9 := hy6.far (p := ⟨gO, 3, none⟩) (by show gY ≠ gO; omega) (.slice O6 (k + 1) oc6)
                  have hnO : ¬ blkA O = some gO := fun e => by
                    have h9 : H1 ≤ gO := (HS.out.blk e).1
                    omega
                  have hq6 := hch6.blk HS.out.out hnO
                  have q3 := hq6.cell 3
                  have ql := hq6.lt
                  have qf := hq6.frozen 3
                  simp only [List.getElem?_cons_zero, List.getElem?_cons_succ] at q3
                  obtain ⟨z0, z1, z2, z3⟩ := hy6.cell4
                  obtain ⟨y0, y1, y2, y3⟩ := hy9.cell4
                  have Hs9 := hide hs9
                  clear hown6 hch6 hat6 hs9 hy6 hy9 hq6 hfirm
                  refine hK.out _ _ ?_ (fun hHeld2 => ?_)
                  · (try dsimp only); exact ⟨z0, z1, z2, z3⟩
                  clear hK K hHeld
                  try simp only [Act.put, List.setIfInBounds_toArray, List.set_cons_zero, List.set_cons_succ]
                  have hHeld := hHeld2; clear hHeld2
                  clear z0 z1 z2 z3
                  refine takeM (i := 16) (v := ?_) (some 38) rfl rfl (by kernel_rfl) (by kernel_rfl) (by kernel_rfl) (fun _ _ _ h => h) (Or.inl ⟨by rfl, ?_⟩) (by assumption) ?_
                  rotate_left
                  · intro w hSw; (try dsimp only at hSw); obtain ⟨s1, s2, s3, s4⟩ := hSw; first | (go_simp; done) | (go_simp; with_reducible rfl)
                  try simp only [Act.put, List.setIfInBounds_toArray, List.set_cons_zero, List.set_cons_succ]
                  refine wpAnyH_ready (rs := [17]) (by kernel_rfl) (by simp) ?_
                  refine AllReadyH.cons rfl (fun K hK => ?_) AllReadyH.nil
                  go_simp
                  refine hK.out _ _ ?_ (fun hHeld2 => ?_)
                  · (try dsimp only); exact ⟨y0, y1, y2, y3⟩
                  clear hK K hHeld
                  try simp only [Act.put, List.setIfInBounds_toArray, List.set_cons_zero, List.set_cons_succ]
                  have hHeld := hHeld2; clear hHeld2
                  refine wpAnyH_done (by kernel_rfl) ?_ _
                  go_wp2_with fail
                  go_roundw
                  case rel => exact ⟨k + 1, O6, oc6, _, by omega, by go_num, Hs9.out⟩
                  case measure => simp [intOf]; omega
      · obtain rfl : k = nO := by omega
        obtain ⟨x0, x1, x2, x3⟩ := hS.out.cell4
        obtain ⟨v0, v1, v2, v3⟩ := hS.res.cell4
        have vf0 := hS.res.frozen 0
        have vf1 := hS.res.frozen 1
        have vf2 := hS.res.frozen 2
        have vf3 := hS.res.frozen 3
        have vl := hS.res.lt
        simp only at x0 x1 x2 x3 v0 v1 v2 v3 vf0 vf1 vf2 vf3 vl
        clear hS
        go_wp2_with fail
        refine bodyPost_ret (v := .agg #[.int .i64 T.facts, .slice AI nI eI, .slice AG nG eG, .slice O k oc]) (by simp [results, Tryz.results62, go_sem, v0, v1, v2, v3, vl]) rfl ?_
        have hS := HS.out
        have hz := HgT.out
        have hc : Chg (fun b => b = gT + 1) wr ((((wr.setCell ⟨gT + 1, 0, none⟩ (.int .i64 T.facts)).setCell ⟨gT + 1, 1, none⟩ (.slice AI nI eI)).setCell ⟨gT + 1, 2, none⟩ (.slice AG nG eG)).setCell ⟨gT + 1, 3, none⟩ (.slice O k oc)) :=
          (((Chg.set _ _ 0 _).trans (Chg.set _ _ 1 _)).trans (Chg.set _ _ 2 _)).trans (Chg.set _ _ 3 _)
        have hsz : ((((wr.setCell ⟨gT + 1, 0, none⟩ (.int .i64 T.facts)).setCell ⟨gT + 1, 1, none⟩ (.slice AI nI eI)).setCell ⟨gT + 1, 2, none⟩ (.slice AG nG eG)).setCell ⟨gT + 1, 3, none⟩ (.slice O k oc)).heap.size = wr.heap.size := by simp
        have hown := hS.own.chg (M' := fun b => b = gT + 1) hc (fun i e => .inr (.inl (by show i < H1; omega))) (fun r hr e => by have := (hS.blk hr).1; simp only at this; omega)
        rw [List.take_of_length_le (by omega)] at hown
        have hs1 := hS.size
        simp only at hs1
        refine ⟨hS.low.trans (hc.below (B := w.heap.size) (fun i e => by omega) hS.low.size), H1, AI, eI, AG, eG, O, oc, vs, rfl, by omega, by rw [hsz]; exact hs1, ?_, ?_, ?_⟩
        · exact (hS.init.chg (hc.mono fun b e => .inl (by show b < W0.heap.size; omega))).mono (fun i hi e => by rcases e with e | e; exact .inl (by show i < W0.heap.size; omega); exact .inr (.inr e))
        · exact (hS.goal.chg (hc.mono fun b e => .inl (by show b < W0.heap.size; omega))).mono (fun i hi e => by rcases e with e | e; exact .inl (by show i < W0.heap.size; omega); exact .inr (.inr e))
        · rw [hsz]
          exact hown
end Go.Proofs.YtemiecammmbjdaaGreat
namespace Go.Proofs.YtemiecammmbjdaaGreat
set_option linter.unusedVariables false
set_option linter.unusedSimpArgs false
open Go.RowKit
set_option maxRecDepth 100000 in
set_option maxHeartbeats 12800000 in
theorem extend_ct (a : TA) (T : Tsk) (B : Option Addr) (m d : Nat) (ms : List (List Int)) (w : World) (h : TkR w a T) (hl : Rd (Enc.sl Enc.int) w B m d ms) :
    Calls Tryz.prog 34 #[.agg #[.int .i64 T.facts, .slice a.I a.nI a.cI, .slice a.G a.nG a.cG, .slice a.O a.nO a.cO], .slice B m d] w (ExtP w (extendR T ms)) := by
  obtain ⟨I, nI, cI, G, nG, cG, Oo, nO, cO⟩ := a
  have hval := SValidate_ct ⟨I, nI, cI, G, nG, cG, Oo, nO, cO⟩ T
  have hfa := fun B m d l i w h hl => mfault_ct ⟨I, nI, cI, G, nG, cG, Oo, nO, cO⟩ T B m d l i w h hl
  have hco := fun N B m d l w h hok hl => combine_ct ⟨I, nI, cI, G, nG, cG, Oo, nO, cO⟩ T N B m d l w h hok hl
  have hcl := mclone_ct ⟨I, nI, cI, G, nG, cG, Oo, nO, cO⟩ T
  obtain ⟨i1, hi1, hy0, hy1, hy2⟩ := info_parts opInfoT
  simp only at hval hfa hco hcl ⊢
  rcases hq : taskFault T with ⟨ec, ei⟩
  rw [hq] at hval
  have Hq := hide hq
  have hlO := h.ops.len
  have hlI := h.init.len
  have hlG := h.goal.len
  have hlow := h.ops.low
  have hlm := hl.low
  simp only at hlO hlI hlG hlow
  have H := hide h
  have Hl := hide hl
  have Hll := hide hl.len
  have Hval := hide hval
  have Hfa := hide hfa
  have Hco := hide hco
  have Hcl := hide hcl
  have HlO := hide hlO
  have HlI := hide hlI
  have HlG := hide hlG
  clear hval hfa hco hcl h hl hq hlO hlI hlG
  have Hbl := hide (Below.refl w.heap.size w)
  go_enter Tryz.func34, Tryz.ntmps34
  go_upto_region 1 with (fail)
  obtain ⟨B0, hB0⟩ : ∃ B0, B0 = w.heap.size := ⟨_, rfl⟩
  have hgR0 : B0 ≤ w.heap.size + 1 := by omega
  have hgF0 : B0 ≤ w.heap.size + 1 + 1 := by omega
  have hgT0 : w.heap.size = B0 := by omega
  have HgT := hide hgT0
  have HB0 := hide hB0
  clear hB0 hgT0
  have hyt := Blk.new (w) 25 [.int .i64 T.facts, .slice I nI cI, .slice G nG cG, .slice Oo nO cO]
  have hyr := Blk.new ((w).alloc (.cells #[.int .i64 T.facts, .slice I nI cI, .slice G nG cG, .slice Oo nO cO] 25)) 25 [.int .i64 0, .slice none 0 0, .slice none 0 0, .slice none 0 0]
  replace hyt := hyt.alloc (.cells #[.int .i64 0, .slice none 0 0, .slice none 0 0, .slice none 0 0] 25)
  have hyf := Blk.new (((w).alloc (.cells #[.int .i64 T.facts, .slice I nI cI, .slice G nG cG, .slice Oo nO cO] 25)).alloc (.cells #[.int .i64 0, .slice none 0 0, .slice none 0 0, .slice none 0 0] 25)) 28 [.int .i64 0, .int .i64 0]
  replace hyt := hyt.alloc (.cells #[.int .i64 0, .int .i64 0] 28)
  replace hyr := hyr.alloc (.cells #[.int .i64 0, .int .i64 0] 28)
  have hbW := below_three w (.cells #[.int .i64 T.facts, .slice I nI cI, .slice G nG cG, .slice Oo nO cO] 25) (.cells #[.int .i64 0, .slice none 0 0, .slice none 0 0, .slice none 0 0] 25) (.cells #[.int .i64 0, .int .i64 0] 28)
  simp only [World.size_alloc] at hyr hyf
  obtain ⟨w0, hW⟩ : ∃ W, W = (((w).alloc (.cells #[.int .i64 T.facts, .slice I nI cI, .slice G nG cG, .slice Oo nO cO] 25)).alloc (.cells #[.int .i64 0, .slice none 0 0, .slice none 0 0, .slice none 0 0] 25)).alloc (.cells #[.int .i64 0, .int .i64 0] 28) := ⟨_, rfl⟩
  rw [← hW] at hyt hyr hyf hbW ⊢
  replace Hbl := hide (Hbl.out.trans (hbW.mono Hbl.out.size))
  have Ht := hide hyt
  have Hr := hide hyr
  have Hf := hide hyf
  clear hW hbW hyt hyr hyf
  generalize w.heap.size = gT at Ht Hr Hf hgR0 hgF0 HgT ⊢
  have t0 := Ht.out.cell 0
  have t1 := Ht.out.cell 1
  have t2 := Ht.out.cell 2
  have t3 := Ht.out.cell 3
  have tl := Ht.out.lt
  have r0 := Hr.out.cell 0
  have r1 := Hr.out.cell 1
  have r2 := Hr.out.cell 2
  have r3 := Hr.out.cell 3
  have rl := Hr.out.lt
  have f0 := Hf.out.cell 0
  have f1 := Hf.out.cell 1
  have fl := Hf.out.lt
  simp only [List.getElem?_cons_zero, List.getElem?_cons_succ] at t0 t1 t2 t3 r0 r1 r2 r3 f0 f1
  have rf0 := Hr.out.frozen 0
  have rf1 := Hr.out.frozen 1
  have rf2 := Hr.out.frozen 2
  have rf3 := Hr.out.frozen 3
  have ff0 := Hf.out.frozen 0
  have ff1 := Hf.out.frozen 1
  have hgne1 : ¬ gT + 1 = gT + 1 + 1 := by omega
  have hgne2 : ¬ gT + 1 + 1 = gT + 1 := by omega
  go_wp2_with fail
  with_reducible refine (Hval.out w0 (H.out.keep Hbl.out)).mono ?_
  rintro e w1 ⟨rfl, hb⟩
  clear t0 t1 t2 t3 r0 r1 r2 r3 f0 f1 tl rl fl
  replace Ht := hide (Ht.out.keep hb)
  replace Hr := hide (Hr.out.keep hb)
  replace Hf := hide (Hf.out.keep hb)
  replace Hbl := hide (Hbl.out.trans (hb.mono Hbl.out.size))
  clear hb
  unfold fault
  have t0 := Ht.out.cell 0
  have t1 := Ht.out.cell 1
  have t2 := Ht.out.cell 2
  have t3 := Ht.out.cell 3
  have tl := Ht.out.lt
  have r0 := Hr.out.cell 0
  have r1 := Hr.out.cell 1
  have r2 := Hr.out.cell 2
  have r3 := Hr.out.cell 3
  have rl := Hr.out.lt
  have f0 := Hf.out.cell 0
  have f1 := Hf.out.cell 1
  have fl := Hf.out.lt
  simp only [List.getElem?_cons_zero, List.getElem?_cons_succ] at t0 t1 t2 t3 r0 r1 r2 r3 f0 f1
  clear rf0 rf1 rf2 rf3 ff0 ff1
  have rf0 := Hr.out.frozen 0
  have rf1 := Hr.out.frozen 1
  have rf2 := Hr.out.frozen 2
  have rf3 := Hr.out.frozen 3
  have ff0 := Hf.out.frozen 0
  have ff1 := Hf.out.frozen 1
  go_upto_region 2 with (fail)
  have hp1 : gT + 1 < w1.heap.size := rl
  have hp2 : gT + 1 + 1 < w1.heap.size := fl
  have hyp := Blk.new (w1) 28 [.int .i64 ec, .int .i64 ei]
  have hbW : Below (w1).heap.size (w1) ((w1).alloc (.cells #[.int .i64 ec, .int .i64 ei] 28)) := (Below.refl _ _).alloc (Nat.le_refl _) _
  obtain ⟨w2, hW⟩ : ∃ W, W = (w1).alloc (.cells #[.int .i64 ec, .int .i64 ei] 28) := ⟨_, rfl⟩
  rw [← hW] at hyp hbW ⊢
  replace Ht := hide (Ht.out.keep hbW)
  replace Hr := hide (Hr.out.keep hbW)
  replace Hf := hide (Hf.out.keep hbW)
  replace Hbl := hide (Hbl.out.trans (hbW.mono Hbl.out.size))
  have Hp := hide hyp
  clear hW hbW hyp
  generalize w1.heap.size = gp at Hp hp1 hp2 ⊢
  have t0 := Ht.out.cell 0
  have t1 := Ht.out.cell 1
  have t2 := Ht.out.cell 2
  have t3 := Ht.out.cell 3
  have tl := Ht.out.lt
  have r0 := Hr.out.cell 0
  have r1 := Hr.out.cell 1
  have r2 := Hr.out.cell 2
  have r3 := Hr.out.cell 3
  have rl := Hr.out.lt
  have f0 := Hf.out.cell 0
  have f1 := Hf.out.cell 1
  have fl := Hf.out.lt
  have p0 := Hp.out.cell 0
  have p1 := Hp.out.cell 1
  have pl := Hp.out.lt
  simp only [List.getElem?_cons_zero, List.getElem?_cons_succ] at t0 t1 t2 t3 r0 r1 r2 r3 f0 f1 p0 p1
  have hpn1 : ¬ gp = gT + 1 := by omega
  have hpn2 : ¬ gT + 1 = gp := by omega
  have hpn3 : ¬ gp = gT + 1 + 1 := by omega
  have hpn4 : ¬ gT + 1 + 1 = gp := by omega
  clear rf0 rf1 rf2 rf3 ff0 ff1
  have rf0 := Hr.out.frozen 0
  have rf1 := Hr.out.frozen 1
  have rf2 := Hr.out.frozen 2
  have rf3 := Hr.out.frozen 3
  have ff0 := Hf.out.frozen 0
  have ff1 := Hf.out.frozen 1
  by_cases hec : ec = 0
  · subst hec
    have hz := taskFault_zero (T := T) (by rw [Hq.out])
    rw [Hq.out] at hz
    obtain ⟨_, e2⟩ := Prod.mk.inj hz
    subst e2
    obtain ⟨N, hok⟩ := taskFault_ok (T := T) (by rw [Hq.out])
    have Hok := hide hok
    clear hz hok
    by_cases h8 : 8 < m
    · skip
      go_wp2_with fail
      refine bodyPost_ret (v := .tuple #[.agg #[.int .i64 0, .slice none 0 0, .slice none 0 0, .slice none 0 0], fault 2 (-8)]) (by simp [results, Tryz.results34, go_sem, fault, r0, r1, r2, r3, f0, f1, rl, fl, hgne1, hgne2]) rfl ?_
      have hres : extendR T ms = (zeroT, 2, (-8)) := by
        unfold extendR
        rw [Hq.out, if_neg (by simp), if_pos (by rw [Hll.out, HlO.out]; omega)]
      rw [hres]
      have hB := HB0.out
      refine ext_zero ?_ _ _
      repeat' (first | (with_reducible exact Hbl.out) | (with_reducible refine Below.drew ?_) | (with_reducible refine below_set ?_ ?_ _ _) | omega)
    · skip
      by_cases h40 : 40 < nO + m
      · have h40i : (40 : Int) < (nO : Int) + (m : Int) := by omega
        skip
        have hfew := Hok.out.few
        rw [HlO.out] at hfew
        go_wp2_with fail
        refine bodyPost_ret (v := .tuple #[.agg #[.int .i64 0, .slice none 0 0, .slice none 0 0, .slice none 0 0], fault 2 (-8)]) (by simp [results, Tryz.results34, go_sem, fault, r0, r1, r2, r3, f0, f1, rl, fl, hgne1, hgne2]) rfl ?_
        have hres : extendR T ms = (zeroT, 2, (-8)) := by
          unfold extendR
          rw [Hq.out, if_neg (by simp), if_pos (by rw [Hll.out, HlO.out]; omega)]
        rw [hres]
        have hB := HB0.out
        refine ext_zero ?_ _ _
        repeat' (first | (with_reducible exact Hbl.out) | (with_reducible refine Below.drew ?_) | (with_reducible refine below_set ?_ ?_ _ _) | omega)
      · have h40i : ¬ (40 : Int) < (nO : Int) + (m : Int) := by omega
        have hfew := Hok.out.few
        rw [HlO.out] at hfew
        have hlow24 := Hok.out.low
        have hin := setB_len Hok.out.init
        have hgo := setB_len Hok.out.goal
        rw [HlI.out] at hin
        rw [HlG.out] at hgo
        have hsets : ∀ o ∈ T.ops, o.pre.length ≤ 1000000 ∧ o.add.length ≤ 1000000 ∧ o.del.length ≤ 1000000 := fun o ho => by
          have h1 := setB_len (Hok.out.ops o ho).pre
          have h2 := setB_len (Hok.out.ops o ho).add
          have h3 := setB_len (Hok.out.ops o ho).del
          omega
        have Hsets := hide hsets
        have hq1 : gT + 1 + 1 < w2.heap.size := fl
        clear hsets
        go_wp2_with fail
        with_reducible refine (Hcl.out w2 (H.out.keep Hbl.out) (by omega) (by omega) (by omega) Hsets.out).mono ?_
        rintro e w3 ⟨hb, Bc, AI, eI, AG, eG, O, oc, vs, rfl, hB1, hB2, xi, xg, hown⟩
        clear t0 t1 t2 t3 r0 r1 r2 r3 f0 f1 p0 p1 tl rl fl pl
        clear rf0 rf1 rf2 rf3 ff0 ff1
        replace Ht := hide (Ht.out.keep hb)
        replace Hr := hide (Hr.out.keep hb)
        replace Hf := hide (Hf.out.keep hb)
        replace Hp := hide (Hp.out.keep hb)
        replace Hbl := hide (Hbl.out.trans (hb.mono Hbl.out.size))
        clear hb
        have t0 := Ht.out.cell 0
        have t1 := Ht.out.cell 1
        have t2 := Ht.out.cell 2
        have t3 := Ht.out.cell 3
        have tl := Ht.out.lt
        have r0 := Hr.out.cell 0
        have r1 := Hr.out.cell 1
        have r2 := Hr.out.cell 2
        have r3 := Hr.out.cell 3
        have rl := Hr.out.lt
        have f0 := Hf.out.cell 0
        have f1 := Hf.out.cell 1
        have fl := Hf.out.lt
        have p0 := Hp.out.cell 0
        have p1 := Hp.out.cell 1
        have pl := Hp.out.lt
        simp only [List.getElem?_cons_zero, List.getElem?_cons_succ] at t0 t1 t2 t3 r0 r1 r2 r3 f0 f1 p0 p1
        have rf0 := Hr.out.frozen 0
        have rf1 := Hr.out.frozen 1
        have rf2 := Hr.out.frozen 2
        have rf3 := Hr.out.frozen 3
        have ff0 := Hf.out.frozen 0
        have ff1 := Hf.out.frozen 1
        have Xi := hide xi
        have Xg := hide xg
        have Hown := hide hown
        clear xi xg hown
        go_upto_region 7 with (fail)
        have hS : ExS w (w3.alloc (.cells #[.int .i64 T.facts, .slice AI nI eI, .slice AG nG eG, .slice O nO oc] 25)) T [.int .i64 T.facts, .slice I nI cI, .slice G nG cG, .slice Oo nO cO] ⟨gT, w3.heap.size, Bc, w2.heap.size, AI, nI, eI, AG, nG, eG⟩ (nO + 0) O oc vs T.ops := by
          have hb := (Below.refl w3.heap.size w3).alloc (Nat.le_refl _) (.cells #[.int .i64 T.facts, .slice AI nI eI, .slice AG nG eG, .slice O nO oc] 25)
          refine ⟨Ht.out.keep hb, Hr.out.keep hb, Hf.out.keep hb, Blk.new w3 25 [.int .i64 T.facts, .slice AI nI eI, .slice AG nG eG, .slice O nO oc], Hbl.out.trans (hb.mono Hbl.out.size), (Hown.out.keep hb).less (fun i hi e => ?_), fun r hr e => ?_, Xi.out.keep hb, Xg.out.keep hb, ?_, hq1, hB1, hB2⟩
          · rcases e with e | e | e | e
            · exact .inl e
            · exact .inr (.inl e)
            · exact .inr (.inr (by show w3.heap.size ≤ i; simp only at e; omega))
            · exact .inr (.inr (by simp at e; omega))
          · have := (Hown.out.base hr).2
            simp only at e
            omega
          · show gT = w.heap.size
            exact HgT.out.trans HB0.out
        obtain ⟨w4, hW⟩ : ∃ W, W = w3.alloc (.cells #[.int .i64 T.facts, .slice AI nI eI, .slice AG nG eG, .slice O nO oc] 25) := ⟨_, rfl⟩
        rw [← hW] at hS ⊢
        have hX1 : Bc ≤ w3.heap.size := hB2
        clear hW Ht Hr Hf Hp Xi Xg Hown
        clear t0 t1 t2 t3 r0 r1 r2 r3 f0 f1 p0 p1 tl rl fl pl
        clear rf0 rf1 rf2 rf3 ff0 ff1
        generalize w3.heap.size = gX at hS hX1 ⊢
        generalize w2.heap.size = Bl at hS hB1 hq1
        have HS := hide hS
        have Hst := hide (show extendR T ms = extLoop T T.ops 0 ms by unfold extendR; rw [Hq.out, if_neg (by simp), if_neg (by rw [Hll.out, HlO.out]; omega)])
        clear hS Hbl
        go_wp2_with fail
        go_loopw [38] (fun i wr => ∃ (k : Nat) (O : Option Addr) (oc : Nat) (vs : List Value) (os : List Opr), k ≤ m ∧ i = .int .i64 k ∧ ExS w wr T [.int .i64 T.facts, .slice I nI cI, .slice G nG cG, .slice Oo nO cO] ⟨gT, gX, Bc, Bl, AI, nI, eI, AG, nG, eG⟩ (nO + k) O oc vs os ∧ extendR T ms = extLoop T os k (ms.drop k)) (fun i _ => m - (intOf i).toNat)
        case atStart => exact ⟨0, O, oc, vs, T.ops, by omega, rfl, HS.out, by rw [Hst.out]; rfl⟩
        case round =>
          clear HS Hst
          obtain ⟨k, O, oc, vs, os, hk, rfl, hS, hst⟩ := hrel
          have HS := hide hS
          have Hst := hide hst
          clear hS hst
          obtain ⟨c0, c1, c2, c3⟩ := HS.out.par.cell4
          have r0 := HS.out.res.cell 0
          have r1 := HS.out.res.cell 1
          have r2 := HS.out.res.cell 2
          have r3 := HS.out.res.cell 3
          have rf0 := HS.out.res.frozen 0
          have rf1 := HS.out.res.frozen 1
          have rf2 := HS.out.res.frozen 2
          have rf3 := HS.out.res.frozen 3
          have rl := HS.out.res.lt
          have f0 := HS.out.flt.cell 0
          have f1 := HS.out.flt.cell 1
          have ff0 := HS.out.flt.frozen 0
          have ff1 := HS.out.flt.frozen 1
          have fl := HS.out.flt.lt
          obtain ⟨x0, x1, x2, x3⟩ := HS.out.out.cell4
          have xf3 := HS.out.out.frozen 3
          have xl := HS.out.out.lt
          simp only [zeroTask, List.getElem?_cons_zero, List.getElem?_cons_succ] at c0 c1 c2 c3 r0 r1 r2 r3 rf0 rf1 rf2 rf3 rl f0 f1 ff0 ff1 fl x0 x1 x2 x3 xf3 xl
          by_cases hlt : k < m
          · skip
            obtain ⟨b, off, l, A', n', c', rfl, hx, hcx, hrd⟩ := (Hl.out.keep HS.out.low).sl hlt
            have Hx := hide hx
            have hdrop := drop_cons hx
            have Hrl := hide hrd
            rcases hq2 : seqFault T.ops.length l (-20 - (k : Int)) with ⟨sc, si⟩
            have Hq2 := hide hq2
            have hfa := Hfa.out A' n' c' l (-20 - (k : Int)) wr (H.out.keep HS.out.low) hrd
            rw [hq2] at hfa
            have Hfa1 := hide hfa
            have Hdrop := hide hdrop
            have hwr : IntKind.i64.wrap (-20 - (k : Int)) = -20 - (k : Int) := by rw [IntWalk.i64_in _ (by omega)]
            have hsz0 := HS.out.low.size
            clear hx hrd hq2 hfa hdrop
            go_wp2_with fail
            with_reducible refine (Hfa1.out).mono ?_
            rintro e w5 ⟨rfl, hb⟩
            unfold fault
            replace HS := hide (HS.out.keep hb)
            replace Hrl := hide (Hrl.out.keep hb)
            clear hb hcx
            clear c0 c1 c2 c3 r0 r1 r2 r3 rf0 rf1 rf2 rf3 rl f0 f1 ff0 ff1 fl x0 x1 x2 x3 xf3 xl
            obtain ⟨c0, c1, c2, c3⟩ := HS.out.par.cell4
            have r0 := HS.out.res.cell 0
            have r1 := HS.out.res.cell 1
            have r2 := HS.out.res.cell 2
            have r3 := HS.out.res.cell 3
            have rf0 := HS.out.res.frozen 0
            have rf1 := HS.out.res.frozen 1
            have rf2 := HS.out.res.frozen 2
            have rf3 := HS.out.res.frozen 3
            have rl := HS.out.res.lt
            have f0 := HS.out.flt.cell 0
            have f1 := HS.out.flt.cell 1
            have ff0 := HS.out.flt.frozen 0
            have ff1 := HS.out.flt.frozen 1
            have fl := HS.out.flt.lt
            obtain ⟨x0, x1, x2, x3⟩ := HS.out.out.cell4
            have xf3 := HS.out.out.frozen 3
            have xl := HS.out.out.lt
            simp only [zeroTask, List.getElem?_cons_zero, List.getElem?_cons_succ] at c0 c1 c2 c3 r0 r1 r2 r3 rf0 rf1 rf2 rf3 rl f0 f1 ff0 ff1 fl x0 x1 x2 x3 xf3 xl
            go_upto_region 11 with (fail)
            have hs1 : gT + 1 < w5.heap.size := rl
            have hs2 : gT + 1 + 1 < w5.heap.size := fl
            have hs3 : gX < w5.heap.size := xl
            have hys := Blk.new w5 28 [.int .i64 sc, .int .i64 si]
            have hbW : Below w5.heap.size w5 (w5.alloc (.cells #[.int .i64 sc, .int .i64 si] 28)) := (Below.refl _ _).alloc (Nat.le_refl _) _
            obtain ⟨w6, hW⟩ : ∃ W, W = w5.alloc (.cells #[.int .i64 sc, .int .i64 si] 28) := ⟨_, rfl⟩
            rw [← hW] at hys hbW ⊢
            replace HS := hide (HS.out.keep hbW)
            replace Hrl := hide (Hrl.out.keep hbW)
            have Hs := hide hys
            clear hW hbW hys
            generalize w5.heap.size = gs at Hs hs1 hs2 hs3 ⊢
            have s0 := Hs.out.cell 0
            have s1 := Hs.out.cell 1
            have sl := Hs.out.lt
            simp only [List.getElem?_cons_zero, List.getElem?_cons_succ] at s0 s1
            have hsn1 : ¬ gs = gT + 1 := by omega
            have hsn2 : ¬ gT + 1 = gs := by omega
            have hsn3 : ¬ gs = gT + 1 + 1 := by omega
            have hsn4 : ¬ gT + 1 + 1 = gs := by omega
            clear c0 c1 c2 c3 r0 r1 r2 r3 rf0 rf1 rf2 rf3 rl f0 f1 ff0 ff1 fl x0 x1 x2 x3 xf3 xl
            obtain ⟨c0, c1, c2, c3⟩ := HS.out.par.cell4
            have r0 := HS.out.res.cell 0
            have r1 := HS.out.res.cell 1
            have r2 := HS.out.res.cell 2
            have r3 := HS.out.res.cell 3
            have rf0 := HS.out.res.frozen 0
            have rf1 := HS.out.res.frozen 1
            have rf2 := HS.out.res.frozen 2
            have rf3 := HS.out.res.frozen 3
            have rl := HS.out.res.lt
            have f0 := HS.out.flt.cell 0
            have f1 := HS.out.flt.cell 1
            have ff0 := HS.out.flt.frozen 0
            have ff1 := HS.out.flt.frozen 1
            have fl := HS.out.flt.lt
            obtain ⟨x0, x1, x2, x3⟩ := HS.out.out.cell4
            have xf3 := HS.out.out.frozen 3
            have xl := HS.out.out.lt
            simp only [zeroTask, List.getElem?_cons_zero, List.getElem?_cons_succ] at c0 c1 c2 c3 r0 r1 r2 r3 rf0 rf1 rf2 rf3 rl f0 f1 ff0 ff1 fl x0 x1 x2 x3 xf3 xl
            by_cases hsc : sc = 0
            · subst hsc
              obtain ⟨hz, hl1, hl6, hrng⟩ := seqFault_ok (k := T.ops.length) (l := l) (i := -20 - (k : Int)) (by rw [Hq2.out])
              rw [Hq2.out] at hz
              obtain ⟨_, e2⟩ := Prod.mk.inj hz
              subst e2
              rw [Hrl.out.len] at hl1 hl6
              have Hrng := hide hrng
              clear hz hrng
              go_wp2_with fail
              with_reducible refine (Hco.out N A' n' c' l w6 (H.out.keep HS.out.low) Hok.out Hrl.out (by omega) Hrng.out).mono ?_
              rintro e w7 ⟨hb, hcs⟩
              have hxl6 : gX < w6.heap.size := xl
              have hO6 : ∀ r, blkA O = some r → r ≤ w6.heap.size := fun r hr => Nat.le_of_lt (HS.out.own.base hr).2
              replace HS := hide (HS.out.keep hb)
              replace Hs := hide (Hs.out.keep hb)
              clear hb s0 s1 sl
              clear c0 c1 c2 c3 r0 r1 r2 r3 rf0 rf1 rf2 rf3 rl f0 f1 ff0 ff1 fl x0 x1 x2 x3 xf3 xl
              obtain ⟨c0, c1, c2, c3⟩ := HS.out.par.cell4
              have r0 := HS.out.res.cell 0
              have r1 := HS.out.res.cell 1
              have r2 := HS.out.res.cell 2
              have r3 := HS.out.res.cell 3
              have rf0 := HS.out.res.frozen 0
              have rf1 := HS.out.res.frozen 1
              have rf2 := HS.out.res.frozen 2
              have rf3 := HS.out.res.frozen 3
              have rl := HS.out.res.lt
              have f0 := HS.out.flt.cell 0
              have f1 := HS.out.flt.cell 1
              have ff0 := HS.out.flt.frozen 0
              have ff1 := HS.out.flt.frozen 1
              have fl := HS.out.flt.lt
              obtain ⟨x0, x1, x2, x3⟩ := HS.out.out.cell4
              have xf3 := HS.out.out.frozen 3
              have xl := HS.out.out.lt
              simp only [zeroTask, List.getElem?_cons_zero, List.getElem?_cons_succ] at c0 c1 c2 c3 r0 r1 r2 r3 rf0 rf1 rf2 rf3 rl f0 f1 ff0 ff1 fl x0 x1 x2 x3 xf3 xl
              rcases hcs with ⟨hnone, rfl⟩ | ⟨o, A1, n1, c1', A2, n2, c2', A3, n3, c3', hsome, rfl, q1, q2, q3, hso⟩
              · have Hnone := hide hnone
                clear hnone
                go_upto_region 14 with (fail)
                have hv1 : gT + 1 < w7.heap.size := rl
                have hv2 : gT + 1 + 1 < w7.heap.size := fl
                have hv3 : gX < w7.heap.size := xl
                have hyv := Blk.new w7 72 [.slice none 0 0, .slice none 0 0, .slice none 0 0, .int .i64 0]
                have hbW : Below w7.heap.size w7 (w7.alloc (.cells #[.slice none 0 0, .slice none 0 0, .slice none 0 0, .int .i64 0] 72)) := (Below.refl _ _).alloc (Nat.le_refl _) _
                obtain ⟨w8, hW⟩ : ∃ W, W = w7.alloc (.cells #[.slice none 0 0, .slice none 0 0, .slice none 0 0, .int .i64 0] 72) := ⟨_, rfl⟩
                rw [← hW] at hyv hbW ⊢
                replace HS := hide (HS.out.keep hbW)

                have Hv := hide hyv
                clear hW hbW hyv
                generalize w7.heap.size = gv at Hv hv1 hv2 hv3 ⊢
                have v0 := Hv.out.cell 0
                have v1 := Hv.out.cell 1
                have v2 := Hv.out.cell 2
                have v3 := Hv.out.cell 3
                have vl := Hv.out.lt
                simp only [List.getElem?_cons_zero, List.getElem?_cons_succ] at v0 v1 v2 v3
                have hvn1 : ¬ gv = gT + 1 := by omega
                have hvn2 : ¬ gT + 1 = gv := by omega
                have hvn3 : ¬ gv = gT + 1 + 1 := by omega
                have hvn4 : ¬ gT + 1 + 1 = gv := by omega
                clear c0 c1 c2 c3 r0 r1 r2 r3 rf0 rf1 rf2 rf3 rl f0 f1 ff0 ff1 fl x0 x1 x2 x3 xf3 xl
                obtain ⟨c0, c1, c2, c3⟩ := HS.out.par.cell4
                have r0 := HS.out.res.cell 0
                have r1 := HS.out.res.cell 1
                have r2 := HS.out.res.cell 2
                have r3 := HS.out.res.cell 3
                have rf0 := HS.out.res.frozen 0
                have rf1 := HS.out.res.frozen 1
                have rf2 := HS.out.res.frozen 2
                have rf3 := HS.out.res.frozen 3
                have rl := HS.out.res.lt
                have f0 := HS.out.flt.cell 0
                have f1 := HS.out.flt.cell 1
                have ff0 := HS.out.flt.frozen 0
                have ff1 := HS.out.flt.frozen 1
                have fl := HS.out.flt.lt
                obtain ⟨x0, x1, x2, x3⟩ := HS.out.out.cell4
                have xf3 := HS.out.out.frozen 3
                have xl := HS.out.out.lt
                simp only [zeroTask, List.getElem?_cons_zero, List.getElem?_cons_succ] at c0 c1 c2 c3 r0 r1 r2 r3 rf0 rf1 rf2 rf3 rl f0 f1 ff0 ff1 fl x0 x1 x2 x3 xf3 xl
                go_wp2_with fail
                refine bodyPost_ret (v := .tuple #[.agg #[.int .i64 0, .slice none 0 0, .slice none 0 0, .slice none 0 0], fault 11 (-20 - (k : Int))]) (by simp [results, Tryz.results34, go_sem, fault, r0, r1, r2, r3, f0, f1, rl, fl, hgne1, hgne2]) rfl ?_
                have hres : extendR T ms = (zeroT, 11, (-20 - (k : Int))) := by
                  rw [Hst.out, Hdrop.out]
                  unfold extLoop
                  rw [Hq2.out, if_neg (by simp)]
                  rw [show combF zeroOp (l.map (opAt T.ops)) = none from Hnone.out]
                rw [hres]
                have hB := HB0.out
                refine ext_zero ?_ _ _
                repeat' (first | (with_reducible exact HS.out.low) | (with_reducible refine Below.drew ?_) | (with_reducible refine below_set ?_ ?_ _ _) | omega)
              · have Hsome := hide hsome
                have hc0 := hso
                have Q1 := hide q1
                have Q2 := hide q2
                have Q3 := hide q3
                clear hsome hso q1 q2 q3 hc0
                go_upto_region 14 with (fail)
                have hv1 : gT + 1 < w7.heap.size := rl
                have hv2 : gT + 1 + 1 < w7.heap.size := fl
                have hv3 : gX < w7.heap.size := xl
                have hyv := Blk.new w7 72 [.slice A1 n1 c1', .slice A2 n2 c2', .slice A3 n3 c3', .int .i64 o.cost]
                have hbW : Below w7.heap.size w7 (w7.alloc (.cells #[.slice A1 n1 c1', .slice A2 n2 c2', .slice A3 n3 c3', .int .i64 o.cost] 72)) := (Below.refl _ _).alloc (Nat.le_refl _) _
                obtain ⟨w8, hW⟩ : ∃ W, W = w7.alloc (.cells #[.slice A1 n1 c1', .slice A2 n2 c2', .slice A3 n3 c3', .int .i64 o.cost] 72) := ⟨_, rfl⟩
                rw [← hW] at hyv hbW ⊢
                replace HS := hide (HS.out.keep hbW)
                replace Q1 := hide (Q1.out.keep hbW)
                replace Q2 := hide (Q2.out.keep hbW)
                replace Q3 := hide (Q3.out.keep hbW)
                have Hv := hide hyv
                clear hW hbW hyv
                generalize w7.heap.size = gv at Hv hv1 hv2 hv3 ⊢
                have v0 := Hv.out.cell 0
                have v1 := Hv.out.cell 1
                have v2 := Hv.out.cell 2
                have v3 := Hv.out.cell 3
                have vl := Hv.out.lt
                simp only [List.getElem?_cons_zero, List.getElem?_cons_succ] at v0 v1 v2 v3
                have hvn1 : ¬ gv = gT + 1 := by omega
                have hvn2 : ¬ gT + 1 = gv := by omega
                have hvn3 : ¬ gv = gT + 1 + 1 := by omega
                have hvn4 : ¬ gT + 1 + 1 = gv := by omega
                clear c0 c1 c2 c3 r0 r1 r2 r3 rf0 rf1 rf2 rf3 rl f0 f1 ff0 ff1 fl x0 x1 x2 x3 xf3 xl
                obtain ⟨c0, c1, c2, c3⟩ := HS.out.par.cell4
                have r0 := HS.out.res.cell 0
                have r1 := HS.out.res.cell 1
                have r2 := HS.out.res.cell 2
                have r3 := HS.out.res.cell 3
                have rf0 := HS.out.res.frozen 0
                have rf1 := HS.out.res.frozen 1
                have rf2 := HS.out.res.frozen 2
                have rf3 := HS.out.res.frozen 3
                have rl := HS.out.res.lt
                have f0 := HS.out.flt.cell 0
                have f1 := HS.out.flt.cell 1
                have ff0 := HS.out.flt.frozen 0
                have ff1 := HS.out.flt.frozen 1
                have fl := HS.out.flt.lt
                obtain ⟨x0, x1, x2, x3⟩ := HS.out.out.cell4
                have xf3 := HS.out.out.frozen 3
                have xl := HS.out.out.lt
                simp only [zeroTask, List.getElem?_cons_zero, List.getElem?_cons_succ] at c0 c1 c2 c3 r0 r1 r2 r3 rf0 rf1 rf2 rf3 rl f0 f1 ff0 ff1 fl x0 x1 x2 x3 xf3 xl
                by_cases hbig : 100 < o.cost
                · skip
                  go_wp2_with fail
                  refine bodyPost_ret (v := .tuple #[.agg #[.int .i64 0, .slice none 0 0, .slice none 0 0, .slice none 0 0], fault 10 (-20 - (k : Int))]) (by simp [results, Tryz.results34, go_sem, fault, r0, r1, r2, r3, f0, f1, rl, fl, hgne1, hgne2]) rfl ?_
                  have hres : extendR T ms = (zeroT, 10, (-20 - (k : Int))) := by
                    rw [Hst.out, Hdrop.out]
                    unfold extLoop
                    rw [Hq2.out, if_neg (by simp)]
                    rw [show combF zeroOp (l.map (opAt T.ops)) = some o from Hsome.out]
                    simp only
                    rw [if_pos hbig]
                  rw [hres]
                  have hB := HB0.out
                  refine ext_zero ?_ _ _
                  repeat' (first | (with_reducible exact HS.out.low) | (with_reducible refine Below.drew ?_) | (with_reducible refine below_set ?_ ?_ _ _) | omega)
                · skip
                  have hnext : extendR T ms = extLoop T (os ++ [o]) (k + 1) (ms.drop (k + 1)) := by
                    rw [Hst.out, Hdrop.out]
                    conv => lhs; unfold extLoop
                    rw [Hq2.out, if_neg (by simp)]
                    rw [show combF zeroOp (l.map (opAt T.ops)) = some o from Hsome.out]
                    simp only
                    rw [if_neg hbig]
                  have Hnext := hide hnext
                  have hcost : I64s o.cost := by
                    have := comb_small Hok.out Hrng.out (by rw [Hrl.out.len]; exact hl6) Hsome.out
                    unfold I64s
                    omega
                  have hfirm := HS.out.firm (X := w6.heap.size) (by show gX ≤ w6.heap.size; omega) hO6 Q1.out Q2.out Q3.out hcost
                  have Hfirm := hide hfirm
                  clear hnext hfirm hcost
                  go_wp2_with
                    (at_builtin
                     refine wpList_pushE rfl _ _ 23 rfl Bc 72 i1 _ 80 Tryz.underlying23 hi1 hy0 hy1 hy2 rfl (by decide) rfl HS.out.own (fun r hr => .inl hr) [.slice A1 n1 c1', .slice A2 n2 c2', .slice A3 n3 c3', .int .i64 o.cost] o (by intro u hu; simp at hu; rcases hu with hu | hu | hu | hu <;> subst hu <;> rfl) rfl Hfirm.out (by omega) (by omega) (by omega) ?_
                     intro O6 oc6 w9 hown6 hch6 hat6
                     have hs9 := HS.out.push hown6 hch6 hat6
                     have Hs9 := hide hs9
                     have hx9 := hch6.blk HS.out.out (fun e => HS.out.ne _ e rfl)
                     clear c0 c1 c2 c3 r0 r1 r2 r3 rf0 rf1 rf2 rf3 rl f0 f1 ff0 ff1 fl x0 x1 x2 x3 xf3 xl hown6 hch6 hat6 hs9
                     have x3 := hx9.cell 3
                     have xf3 := hx9.frozen 3
                     have xl := hx9.lt
                     simp only [List.getElem?_cons_zero, List.getElem?_cons_succ] at x3 xf3 xl
                     clear hx9)
                  go_roundw
                  case rel => exact ⟨k + 1, O6, oc6, _, os ++ [o], by omega, by go_num, Hs9.out, Hnext.out⟩
                  case measure => simp [intOf]; omega
            · have hne : (sc != 0) = true := by simpa using hsc
              go_wp2_with fail
              go_region
              all_goals go_wp2_with fail
              all_goals refine bodyPost_ret (v := .tuple #[.agg #[.int .i64 0, .slice none 0 0, .slice none 0 0, .slice none 0 0], fault sc si]) (by simp [results, Tryz.results34, go_sem, fault, r0, r1, r2, r3, f0, f1, rl, fl, hgne1, hgne2]) rfl ?_
              have hres : extendR T ms = (zeroT, sc, si) := by
                rw [Hst.out, Hdrop.out]
                unfold extLoop
                rw [Hq2.out, if_pos hsc]
              rw [hres]
              have hB := HB0.out
              refine ext_zero ?_ _ _
              repeat' (first | (with_reducible exact HS.out.low) | (with_reducible refine Below.drew ?_) | (with_reducible refine below_set ?_ ?_ _ _) | omega)
          · obtain rfl : k = m := by omega
            have hres : extendR T ms = (⟨T.facts, T.init, T.goal, os⟩, 0, 0) := by
              rw [Hst.out, List.drop_of_length_le (by rw [Hll.out]; omega)]
              rfl
            have Hres := hide hres
            clear hres
            go_wp2_with fail
            refine bodyPost_ret (v := .tuple #[.agg #[.int .i64 T.facts, .slice AI nI eI, .slice AG nG eG, .slice O (nO + k) oc], fault 0 0]) (by simp [results, Tryz.results34, go_sem, fault, r0, r1, r2, r3, f0, f1, rl, fl, hgne1, hgne2]) rfl ?_
            rw [Hres.out]
            refine HS.out.done H.out.facts ?_
            exact ((((((Chg.set _ (gT + 1) 0 _).trans (Chg.set _ (gT + 1) 1 _)).trans (Chg.set _ (gT + 1) 2 _)).trans (Chg.set _ (gT + 1) 3 _)).mono (M' := fun b => b = gT + 1 ∨ b = gT + 1 + 1) (fun b e => .inl e)).trans (((Chg.set _ (gT + 1 + 1) 0 _).trans (Chg.set _ (gT + 1 + 1) 1 _)).mono (fun b e => .inr e)))
  · have hne : (ec != 0) = true := by simpa using hec
    go_wp2_with fail
    go_region
    all_goals go_wp2_with fail
    all_goals refine bodyPost_ret (v := .tuple #[.agg #[.int .i64 0, .slice none 0 0, .slice none 0 0, .slice none 0 0], fault ec ei]) (by simp [results, Tryz.results34, go_sem, fault, r0, r1, r2, r3, f0, f1, rl, fl, hgne1, hgne2]) rfl ?_
    have hres : extendR T ms = (zeroT, ec, ei) := by
      unfold extendR
      rw [Hq.out, if_pos hec]
    rw [hres]
    have hB := HB0.out
    refine ext_zero ?_ _ _
    repeat' (first | (with_reducible exact Hbl.out) | (with_reducible refine Below.drew ?_) | (with_reducible refine below_set ?_ ?_ _ _) | omega)
end Go.Proofs.YtemiecammmbjdaaGreat
namespace Go.Proofs.YtemiecammmbjdaaGreat
set_option linter.unusedVariables false
set_option linter.unusedSimpArgs false
open Go.RowKit
theorem extLoop_ok {T : Tsk} : ∀ (ms : List (List Int)) (os : List Opr) (i : Nat), (extLoop T os i ms).2.1 = 0 → (extLoop T os i ms).2 = (0, 0) ∧ (extLoop T os i ms).1.ops.length = os.length + ms.length ∧ ∀ l ∈ ms, l.length ≤ 6 := by
  intro ms
  induction ms with
  | nil => intro os i h; exact ⟨rfl, rfl, fun l hl => by cases hl⟩
  | cons l ms ih =>
    intro os i h
    unfold extLoop at h ⊢
    by_cases h1 : (seqFault T.ops.length l (-20 - (i : Int))).1 ≠ 0
    · rw [if_pos h1] at h
      exact absurd h h1
    · rw [if_neg h1] at h ⊢
      have h2 := seqFault_ok (k := T.ops.length) (l := l) (i := -20 - (i : Int)) (by simpa using h1)
      cases hc : combF zeroOp (l.map (opAt T.ops)) with
      | none => rw [hc] at h; simp at h
      | some o =>
        rw [hc] at h
        simp only at h ⊢
        by_cases h3 : 100 < o.cost
        · rw [if_pos h3] at h; simp at h
        · rw [if_neg h3] at h ⊢
          obtain ⟨e1, e2, e3⟩ := ih _ _ h
          refine ⟨e1, by rw [e2, List.length_append, List.length_cons]; simp; omega, fun q hq => ?_⟩
          rcases List.mem_cons.1 hq with rfl | hq
          · exact h2.2.2.1
          · exact e3 q hq
theorem extend_ok {T : Tsk} {ms : List (List Int)} (h : (extendR T ms).2.1 = 0) : (extendR T ms).2 = (0, 0) ∧ (extendR T ms).1.ops.length = T.ops.length + ms.length ∧ ms.length ≤ 8 ∧ (∀ l ∈ ms, l.length ≤ 6) ∧ T.ops.length ≤ 40 := by
  unfold extendR at h ⊢
  by_cases h1 : (taskFault T).1 ≠ 0
  · rw [if_pos h1] at h
    exact absurd h h1
  · rw [if_neg h1] at h ⊢
    by_cases h2 : 8 < ms.length ∨ 40 < T.ops.length + ms.length
    · rw [if_pos h2] at h; simp at h
    · rw [if_neg h2] at h ⊢
      obtain ⟨e1, e2, e3⟩ := extLoop_ok ms T.ops 0 h
      exact ⟨e1, e2, by omega, e3, by omega⟩
/-- what Expand answers -/
def expandR (T : Tsk) (ms : List (List Int)) (l : List Int) : List Int × Int × Int :=
  if (extendR T ms).2.1 ≠ 0 then ([], (extendR T ms).2) else
  if (stepsFault (extendR T ms).1.ops.length l).1 ≠ 0 then ([], stepsFault (extendR T ms).1.ops.length l) else
  if 60 < (expandF T.ops.length ms l).length then ([], 10, -9) else (expandF T.ops.length ms l, 0, 0)
theorem steps_ok {n : Nat} {l : List Int} (h : (stepsFault n l).1 = 0) : stepsFault n l = (0, 0) ∧ l.length ≤ 60 ∧ ∀ x ∈ l, 0 ≤ x ∧ x < n := by
  unfold stepsFault at h ⊢
  by_cases h1 : 60 < l.length
  · rw [if_pos h1] at h; simp at h
  · rw [if_neg h1] at h ⊢
    by_cases h2 : l.any (outB n) = true
    · rw [if_pos h2] at h; simp at h
    · rw [if_neg h2]
      refine ⟨rfl, by omega, fun x hx => ?_⟩
      have := List.any_eq_false.1 (by simpa using h2) x hx
      unfold outB at this
      simp at this
      omega
def ExpandP (w : World) (r : List Int × Int × Int) (e : Ending) (w' : World) : Prop :=
  Below w.heap.size w w' ∧ ∃ (A : Option Addr) (n c : Nat), e = .returned (.tuple #[.slice A n c, fault r.2.1 r.2.2]) ∧ ∀ w'', Chg (fun b => b < w.heap.size) w' w'' → Rd Enc.int w'' A n c r.1
theorem expandP_nil {w w' : World} (h : Below w.heap.size w w') (c i : Int) : ExpandP w ([], c, i) (.returned (.tuple #[.slice none 0 0, fault c i])) w' := ⟨h, none, 0, 0, rfl, fun _ _ => Rd.nil_ _ _⟩
end Go.Proofs.YtemiecammmbjdaaGreat
