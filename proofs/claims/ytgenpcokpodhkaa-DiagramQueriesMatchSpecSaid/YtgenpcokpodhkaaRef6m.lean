/- Contract of the laws' made. -/
import Derived.Test.YtgenpcokpodhkaaRef6l
namespace Go.Proofs.Ytgenpcokpodhkaa
set_option linter.unusedVariables false
set_option linter.unusedSimpArgs false
open Go.RowKit Go.Maps

def madeB (L : Int) (ns : List DI) (r : Int) (f : Int × Int) (Lw : Nat) (d : List BN × Nat) : Bool :=
  if 300 < d.1.length then failB L ns r f (10, -3) else decide (f.1 = 0) && sameD L ns r Lw (d.1.map castN) (d.2 : Nat)

set_option maxHeartbeats 3200000 in
theorem made_ct (L : Int) (A : Option Addr) (n c : Nat) (ns : List DI) (r : Int) (f : Int × Int) (Lw : Nat) (V : Option Addr) (nv cv : Nat) (vals : List Bool) (w : World) (hL : Lw ≤ 16) (hn : nv = 2 ^ Lw) (h : Rd Enc.node w A n c ns) (hv : Rd Enc.bool w V nv cv vals) :
    Calls Try.prog 15 #[.agg #[.int .i64 L, .slice A n c, .int .i64 r], faultV f, .int .i64 Lw, .slice V nv cv] w (Gives w (.bool (madeB L ns r f Lw (canonical Lw vals)))) := by
  obtain ⟨f0, f1⟩ := f
  have hbl := below_two w (.cells #[.int .i64 L, .slice A n c, .int .i64 r] 30) (.cells #[.int .i64 f0, .int .i64 f1] 25)
  have hx := (Blk.new w 30 [.int .i64 L, .slice A n c, .int .i64 r]).alloc (.cells #[.int .i64 f0, .int .i64 f1] 25)
  have hy := Blk.new (w.alloc (.cells #[.int .i64 L, .slice A n c, .int .i64 r] 30)) 25 [.int .i64 f0, .int .i64 f1]
  simp only [World.size_alloc] at hy
  have hcall := Canonical_ct Lw V nv cv vals _ hL hn (hv.keep hbl)
  have HAt : Hid (∀ (a b : Int) (W : World), Calls Try.prog 18 #[.int .i64 a, .int .i64 b] W (Gives W (fault a b))) := hide At_ct
  have hrd0 := h.keep hbl
  generalize canonical Lw vals = d at hcall
  obtain ⟨out, k⟩ := d
  simp only at hcall
  have Hcall := hide hcall
  have Hbl := hide hbl
  have Hx := hide hx
  have Hy := hide hy
  have Hrd0 := hide hrd0
  have Hn := hide hn
  unfold faultV
  clear h hv hbl hx hy hcall hrd0 hn
  go_enter Try.func15, Try.ntmps15
  go_wp2_with fail
  with_reducible refine Hcall.out.mono ?_
  rintro e w1 ⟨⟨O, m, d, rfl, hrd, _⟩, hb1⟩
  have hm := hrd.len
  rw [List.length_map] at hm
  have hx1 := Hx.out.keep hb1
  have hy1 := Hy.out.keep hb1
  have hrd1 := Hrd0.out.keep hb1
  have hbl1 := Hbl.out.trans (hb1.mono Hbl.out.size)
  have a0 := hx1.cell 0
  have a1 := hx1.cell 1
  have a2 := hx1.cell 2
  have a3 := hx1.lt
  have e0 := hy1.cell 0
  have e1 := hy1.cell 1
  have e3 := hy1.lt
  simp only [List.getElem?_cons_zero, List.getElem?_cons_succ] at a0 a1 a2 e0 e1
  have hbn : Below w1.heap.size w1 (w1.alloc (.cells #[.int .i64 Lw, .slice O m d, .int .i64 k] 30)) := (Below.refl _ _).alloc (Nat.le_refl _) _
  have hz1 := Blk.new w1 30 [.int .i64 Lw, .slice O m d, .int .i64 k]
  go_upto_region 2 with (fail)
  obtain ⟨W, hW⟩ : ∃ W, W = w1.alloc (.cells #[.int .i64 Lw, .slice O m d, .int .i64 k] 30) := ⟨_, rfl⟩
  rw [← hW] at hbn hz1 ⊢
  have hx2 := hx1.keep hbn
  have hy2 := hy1.keep hbn
  have hrd2 := hrd1.keep hbn
  have hrdw := hrd.keep hbn
  have hbl2 := hbl1.trans (hbn.mono hbl1.size)
  clear a0 a1 a2 a3 e0 e1 e3 hW hx1 hy1 hrd1 hbl1 hb1 hbn hrd Hx Hy Hbl Hrd0 Hcall
  have a0 := hx2.cell 0
  have a1 := hx2.cell 1
  have a2 := hx2.cell 2
  have a3 := hx2.lt
  have e0 := hy2.cell 0
  have e1 := hy2.cell 1
  have e3 := hy2.lt
  have z0 := hz1.cell 0
  have z1 := hz1.cell 1
  have z2 := hz1.cell 2
  have z3 := hz1.lt
  simp only [List.getElem?_cons_zero, List.getElem?_cons_succ] at a0 a1 a2 e0 e1 z0 z1 z2
  have Hx1 := hide hx2
  have Hy1 := hide hy2
  have Hz1 := hide hz1
  have Hrd1 := hide hrd2
  have Hrdw := hide hrdw
  have Hbl1 := hide hbl2
  have Hm := hide hm
  clear hx2 hy2 hz1 hrd2 hrdw hbl2 hm
  obtain ⟨g1, hg1⟩ : ∃ g, g = w1.heap.size := ⟨_, rfl⟩
  rw [← hg1] at z0 z1 z2 z3 Hz1 ⊢
  clear hg1 w1
  obtain ⟨w1, rfl⟩ : ∃ V, V = W := ⟨_, rfl⟩
  by_cases hbig : 300 < m
  · have hmb : madeB L ns r (f0, f1) Lw (out, k) = failB L ns r (f0, f1) (10, -3) := by unfold madeB; rw [if_pos (by simp only; rw [Hm.out]; exact hbig)]
    have heq := eqFault f0 f1 10 (-3)
    have Hmb := hide hmb
    clear hmb
    go_wp2_with fail
    by_cases he : (f0, f1) = ((10, -3) : Int × Int)
    · rw [decide_eq_true he] at heq
      have hf : failB L ns r (f0, f1) (10, -3) = sameD L ns r 0 [] 0 := by rw [failB, decide_eq_true he, Bool.true_and]
      have Hf := hide hf
      clear hf he
      refine wp_region_held_drew (S := (fun w' => w'.cell? ⟨w.heap.size, 0, none⟩ = some (.int .i64 L) ∧ w'.cell? ⟨w.heap.size, 1, none⟩ = some (.slice A n c) ∧ w'.cell? ⟨w.heap.size, 2, none⟩ = some (.int .i64 r) ∧ w'.cell? ⟨w.heap.size + 1, 0, none⟩ = some (.int .i64 f0) ∧ w'.cell? ⟨w.heap.size + 1, 1, none⟩ = some (.int .i64 f1))) (by kernel_rfl) ?_ (fun hHeld => ?_)
      · (try dsimp only); go_keep
      refine take1 (i := 0) (v := ?_) (some 17) rfl rfl (by kernel_rfl) (by kernel_rfl) (by kernel_rfl) (fun _ _ _ h => h) (Or.inl ⟨by rfl, ?_⟩) (by assumption) ?_
      rotate_left
      · intro w hSw; (try dsimp only at hSw); first | (go_simp; done) | (go_simp; with_reducible rfl)
      try simp only [Act.put, List.setIfInBounds_toArray, List.set_cons_zero, List.set_cons_succ]
      refine wpAnyH_ready (rs := [1]) (by kernel_rfl) (by simp) ?_
      refine AllReadyH.cons rfl (fun K hK => ?_) AllReadyH.nil
      go_simp
      refine (HAt.out _ _ _).mono ?_
      rintro e w2 ⟨rfl, hb2⟩
      have hb2' := (Below.refl w1.heap.size w1).drew.trans hb2
      have hx2 := Hx1.out.keep hb2'
      have hy2 := Hy1.out.keep hb2'
      have a0 := hx2.cell 0
      have a1 := hx2.cell 1
      have a2 := hx2.cell 2
      have a3 := hx2.lt
      have e0 := hy2.cell 0
      have e1 := hy2.cell 1
      have e3 := hy2.lt
      simp only [List.getElem?_cons_zero, List.getElem?_cons_succ] at a0 a1 a2 e0 e1
      clear hx2 hy2
      have Hb2 := hide hb2'
      clear hb2 hb2'
      unfold fault
      refine hK.out _ _ ?_ (fun hHeld2 => ?_)
      · (try dsimp only); go_keep
      clear hK K hHeld
      try simp only [Act.put, List.setIfInBounds_toArray, List.set_cons_zero, List.set_cons_succ]
      have hHeld := hHeld2; clear hHeld2
      refine take1 (i := 2) (v := ?_) (some 19) rfl rfl (by kernel_rfl) (by kernel_rfl) (by kernel_rfl) (fun _ _ _ h => h) (Or.inl ⟨by rfl, ?_⟩) (by assumption) ?_
      rotate_left
      · intro w hSw; (try dsimp only at hSw); first | (go_simp; done) | (go_simp; with_reducible rfl)
      try simp only [Act.put, List.setIfInBounds_toArray, List.set_cons_zero, List.set_cons_succ]
      refine take1 (i := 3) (v := ?_) (some 20) rfl rfl (by kernel_rfl) (by kernel_rfl) (by kernel_rfl) (fun _ _ _ h => h) (Or.inl ⟨by rfl, ?_⟩) (by assumption) ?_
      rotate_left
      · intro w hSw; (try dsimp only at hSw); first | (go_simp; done) | (go_simp; with_reducible rfl)
      try simp only [Act.put, List.setIfInBounds_toArray, List.set_cons_zero, List.set_cons_succ]
      refine take1 (i := 4) (v := ?_) (some 21) rfl rfl (by kernel_rfl) (by kernel_rfl) (by kernel_rfl) (fun _ _ _ h => h) (Or.inl ⟨by rfl, ?_⟩) (by assumption) ?_
      rotate_left
      · intro w hSw; (try dsimp only at hSw); first | (go_simp; done) | (go_simp; with_reducible rfl)
      try simp only [Act.put, List.setIfInBounds_toArray, List.set_cons_zero, List.set_cons_succ]
      refine take1 (i := 5) (v := ?_) (some 22) rfl rfl (by kernel_rfl) (by kernel_rfl) (by kernel_rfl) (fun _ _ _ h => h) (Or.inl ⟨by rfl, ?_⟩) (by assumption) ?_
      rotate_left
      · intro w hSw; (try dsimp only at hSw); first | (go_simp; done) | (go_simp; with_reducible rfl)
      try simp only [Act.put, List.setIfInBounds_toArray, List.set_cons_zero, List.set_cons_succ]
      refine wpAnyH_ready (rs := [6]) (by kernel_rfl) (by simp) ?_
      refine AllReadyH.cons rfl (fun K hK => ?_) AllReadyH.nil
      go_simp
      refine (SameDiagram_ct L A n c ns r 0 none 0 0 [] 0 w2 ((Hrd1.out.keep Hb2.out)) (Rd.nil_ _ _)).mono ?_
      rintro e w3 ⟨rfl, hb3⟩
      have hb2' := Hb2.out.trans (hb3.mono Hb2.out.size)
      clear a0 a1 a2 a3 e0 e1 e3
      have hx2 := Hx1.out.keep hb2'
      have hy2 := Hy1.out.keep hb2'
      have a0 := hx2.cell 0
      have a1 := hx2.cell 1
      have a2 := hx2.cell 2
      have a3 := hx2.lt
      have e0 := hy2.cell 0
      have e1 := hy2.cell 1
      have e3 := hy2.lt
      simp only [List.getElem?_cons_zero, List.getElem?_cons_succ] at a0 a1 a2 e0 e1
      clear hx2 hy2
      have Hb3 := hide hb2'
      clear hb3 hb2'
      refine hK.out _ _ ?_ (fun hHeld2 => ?_)
      · (try dsimp only); go_keep
      clear hK K hHeld
      try simp only [Act.put, List.setIfInBounds_toArray, List.set_cons_zero, List.set_cons_succ]
      have hHeld := hHeld2; clear hHeld2
      refine take1 (i := 7) (v := ?_) (some 24) rfl rfl (by kernel_rfl) (by kernel_rfl) (by kernel_rfl) (fun _ _ _ h => h) (Or.inl ⟨by rfl, ?_⟩) (by assumption) ?_
      rotate_left
      · intro w hSw; (try dsimp only at hSw); first | (go_simp; done) | (go_simp; with_reducible rfl)
      try simp only [Act.put, List.setIfInBounds_toArray, List.set_cons_zero, List.set_cons_succ]
      refine take1 (i := 8) (v := ?_) (some 8) rfl rfl (by kernel_rfl) (by kernel_rfl) (by kernel_rfl) (fun _ _ _ h => h) (Or.inl ⟨by rfl, ?_⟩) (by assumption) ?_
      rotate_left
      · intro w hSw; (try dsimp only at hSw); first | (go_simp; done) | (go_simp; with_reducible rfl)
      try simp only [Act.put, List.setIfInBounds_toArray, List.set_cons_zero, List.set_cons_succ]
      refine wpAnyH_done (by kernel_rfl) ?_ _
      go_wp2
      go_ret
      exact ⟨ret_bool (Hmb.out.trans Hf.out).symm, Hbl1.out.trans (Hb3.out.mono Hbl1.out.size)⟩
    · rw [decide_eq_false he] at heq
      have hf : failB L ns r (f0, f1) (10, -3) = false := by rw [failB, decide_eq_false he, Bool.false_and]
      have Hf := hide hf
      clear hf he
      refine wp_region_held_drew (S := (fun w' => w'.cell? ⟨w.heap.size, 0, none⟩ = some (.int .i64 L) ∧ w'.cell? ⟨w.heap.size, 1, none⟩ = some (.slice A n c) ∧ w'.cell? ⟨w.heap.size, 2, none⟩ = some (.int .i64 r) ∧ w'.cell? ⟨w.heap.size + 1, 0, none⟩ = some (.int .i64 f0) ∧ w'.cell? ⟨w.heap.size + 1, 1, none⟩ = some (.int .i64 f1))) (by kernel_rfl) ?_ (fun hHeld => ?_)
      · (try dsimp only); go_keep
      refine take1 (i := 0) (v := ?_) (some 17) rfl rfl (by kernel_rfl) (by kernel_rfl) (by kernel_rfl) (fun _ _ _ h => h) (Or.inl ⟨by rfl, ?_⟩) (by assumption) ?_
      rotate_left
      · intro w hSw; (try dsimp only at hSw); first | (go_simp; done) | (go_simp; with_reducible rfl)
      try simp only [Act.put, List.setIfInBounds_toArray, List.set_cons_zero, List.set_cons_succ]
      refine wpAnyH_ready (rs := [1]) (by kernel_rfl) (by simp) ?_
      refine AllReadyH.cons rfl (fun K hK => ?_) AllReadyH.nil
      go_simp
      refine (HAt.out _ _ _).mono ?_
      rintro e w2 ⟨rfl, hb2⟩
      have hb2' := (Below.refl w1.heap.size w1).drew.trans hb2
      have hx2 := Hx1.out.keep hb2'
      have hy2 := Hy1.out.keep hb2'
      have a0 := hx2.cell 0
      have a1 := hx2.cell 1
      have a2 := hx2.cell 2
      have a3 := hx2.lt
      have e0 := hy2.cell 0
      have e1 := hy2.cell 1
      have e3 := hy2.lt
      simp only [List.getElem?_cons_zero, List.getElem?_cons_succ] at a0 a1 a2 e0 e1
      clear hx2 hy2
      have Hb2 := hide hb2'
      clear hb2 hb2'
      unfold fault
      refine hK.out _ _ ?_ (fun hHeld2 => ?_)
      · (try dsimp only); go_keep
      clear hK K hHeld
      try simp only [Act.put, List.setIfInBounds_toArray, List.set_cons_zero, List.set_cons_succ]
      have hHeld := hHeld2; clear hHeld2
      refine take1 (i := 2) (v := ?_) (some 19) rfl rfl (by kernel_rfl) (by kernel_rfl) (by kernel_rfl) (fun _ _ _ h => h) (Or.inl ⟨by rfl, ?_⟩) (by assumption) ?_
      rotate_left
      · intro w hSw; (try dsimp only at hSw); first | (go_simp; done) | (go_simp; with_reducible rfl)
      try simp only [Act.put, List.setIfInBounds_toArray, List.set_cons_zero, List.set_cons_succ]
      refine take1 (i := 3) (v := ?_) (some 20) rfl rfl (by kernel_rfl) (by kernel_rfl) (by kernel_rfl) (fun _ _ _ h => h) (Or.inl ⟨by rfl, ?_⟩) (by assumption) ?_
      rotate_left
      · intro w hSw; (try dsimp only at hSw); first | (go_simp; done) | (go_simp; with_reducible rfl)
      try simp only [Act.put, List.setIfInBounds_toArray, List.set_cons_zero, List.set_cons_succ]
      refine take1 (i := 4) (v := undef) (some 21) rfl rfl (by kernel_rfl) (by kernel_rfl) (by kernel_rfl) (fun _ _ _ h => h) (Or.inr ⟨by rfl, rfl⟩) (by assumption) ?_
      try simp only [Act.put, List.setIfInBounds_toArray, List.set_cons_zero, List.set_cons_succ]
      refine take1 (i := 5) (v := undef) (some 22) rfl rfl (by kernel_rfl) (by kernel_rfl) (by kernel_rfl) (fun _ _ _ h => h) (Or.inr ⟨by rfl, rfl⟩) (by assumption) ?_
      try simp only [Act.put, List.setIfInBounds_toArray, List.set_cons_zero, List.set_cons_succ]
      refine take1 (i := 6) (v := undef) (some 23) rfl rfl (by kernel_rfl) (by kernel_rfl) (by kernel_rfl) (fun _ _ _ h => h) (Or.inr ⟨by rfl, rfl⟩) (by assumption) ?_
      try simp only [Act.put, List.setIfInBounds_toArray, List.set_cons_zero, List.set_cons_succ]
      refine take1 (i := 7) (v := ?_) (some 24) rfl rfl (by kernel_rfl) (by kernel_rfl) (by kernel_rfl) (fun _ _ _ h => h) (Or.inl ⟨by rfl, ?_⟩) (by assumption) ?_
      rotate_left
      · intro w hSw; (try dsimp only at hSw); first | (go_simp; done) | (go_simp; with_reducible rfl)
      try simp only [Act.put, List.setIfInBounds_toArray, List.set_cons_zero, List.set_cons_succ]
      refine take1 (i := 8) (v := ?_) (some 8) rfl rfl (by kernel_rfl) (by kernel_rfl) (by kernel_rfl) (fun _ _ _ h => h) (Or.inl ⟨by rfl, ?_⟩) (by assumption) ?_
      rotate_left
      · intro w hSw; (try dsimp only at hSw); first | (go_simp; done) | (go_simp; with_reducible rfl)
      try simp only [Act.put, List.setIfInBounds_toArray, List.set_cons_zero, List.set_cons_succ]
      refine wpAnyH_done (by kernel_rfl) ?_ _
      go_wp2
      go_ret
      exact ⟨ret_bool (Hmb.out.trans Hf.out).symm, Hbl1.out.trans (Hb2.out.mono Hbl1.out.size)⟩
  · have hmb : madeB L ns r (f0, f1) Lw (out, k) = (decide (f0 = 0) && sameD L ns r Lw (out.map castN) k) := by unfold madeB; rw [if_neg (by simp only; rw [Hm.out]; exact hbig)]
    by_cases he : f0 = 0
    · subst he
      rw [decide_eq_true rfl, Bool.true_and] at hmb
      have hs := SameDiagram_ct L A n c ns r Lw O m d _ k w1 Hrd1.out Hrdw.out
      generalize sameD L ns r Lw (out.map castN) k = b at hs hmb
      have Hs := hide hs
      have Hmb := hide hmb
      clear hs hmb
      go_wp2_with fail
      with_reducible refine Hs.out.mono ?_
      rintro e w3 ⟨rfl, hb3⟩
      go_wp2
      go_ret
      exact ⟨ret_bool Hmb.out.symm, Hbl1.out.trans (hb3.mono Hbl1.out.size)⟩
    · have hb : (f0 == 0) = false := by rw [beq_eq_false_iff_ne]; exact he
      rw [decide_eq_false he, Bool.false_and] at hmb
      have Hmb := hide hmb
      clear he hmb
      go_wp2_with fail
      go_ret
      exact ⟨ret_bool Hmb.out.symm, Hbl1.out⟩
end Go.Proofs.Ytgenpcokpodhkaa
